import Derived.Laws.ResultCell
import Derived.Test.YtfonfcbibdfplaaGreatDoorG28
import Derived.Test.YtfonfcbibdfplaaGreatDoorG08
import Derived.Test.YtfonfcbibdfplaaGreatDoorG12
import Derived.Test.YtfonfcbibdfplaaGreatDoorG26
/- parse: what the parser's parts keep, and how long they are: plain laws. No condition. -/
namespace Go.Proofs.YtfonfcbibdfplaaGreatDoor
open Go.RowKit

/-- The query and the fragment stay. -/
def Kept (p q : PS) : Prop := q.query = p.query ∧ q.frag = p.frag
theorem Kept.rfl' {p : PS} : Kept p p := ⟨rfl, rfl⟩
theorem Kept.trans {p q r : PS} (h : Kept p q) (h2 : Kept q r) : Kept p r := ⟨h2.1.trans h.1, h2.2.trans h.2⟩
theorem kept_path (p : PS) (s : Bs) : Kept p (pathP p s) := by unfold pathP; (repeat' split) <;> exact ⟨rfl, rfl⟩
theorem kept_put (p : PS) (s : Bs) (b : Bool) : Kept p (hostPut p s b) := by unfold hostPut; split <;> exact ⟨rfl, rfl⟩
theorem kept_meet (p : PS) (s : Bs) : Kept p (meet p s) := by
  unfold meet; split
  · rename_i k _
    obtain ⟨x, hx⟩ : ∃ x, x = portP p (s.drop (k + 1)) := ⟨_, rfl⟩
    rw [← hx]
    have h := kept_put { p with u := { p.u with port := x.1 } } (s.take k) (p.bad || !x.2 || k == 0)
    exact ⟨h.1, h.2⟩
  · exact kept_put _ _ _
theorem kept_auth (p : PS) (s : Bs) : Kept p (authP p s) := by
  unfold authP; split
  · rename_i cred h _
    refine Kept.trans ?_ (kept_path _ _)
    generalize hq : ({ p with u := { p.u with user := escape 5 (cut1 58 cred).1, pass := escape 5 (cut1 58 cred).2.1 }, bad := p.bad || h.isEmpty } : PS) = q
    have hk : Kept p q := by subst hq; exact ⟨rfl, rfl⟩
    exact hk.trans (kept_meet q h)
  · exact (kept_meet _ _).trans (kept_path _ _)
theorem kept_whom (p : PS) : Kept p (whom p) := by unfold whom; split <;> exact ⟨rfl, rfl⟩
theorem kept_keep (p : PS) : Kept p (keep p) := by unfold keep; split <;> exact ⟨rfl, rfl⟩
theorem kept_walk (p : PS) (l : List Bs) (s : Bs) : Kept p (walkP p l s) := ⟨rfl, rfl⟩
theorem kept_relative (p : PS) : Kept p (relative p) := by
  unfold relative
  refine Kept.trans (q := { p with u := { p.u with scheme := (baseOf p).scheme } }) ⟨rfl, rfl⟩ ?_
  generalize ({ p with u := { p.u with scheme := (baseOf p).scheme } } : PS) = q
  dsimp only
  (repeat' split)
  · exact kept_auth _ _
  · exact kept_auth _ _
  · exact (kept_whom _).trans (kept_path _ _)
  · exact (kept_whom _).trans (kept_keep _)
  · exact (kept_whom _).trans (kept_walk _ _ _)
theorem kept_far (p : PS) (s : Bs) : Kept p (far p s) := by
  unfold far
  (repeat' split)
  all_goals first
    | exact kept_path _ _
    | exact Kept.trans (p := p) ⟨rfl, rfl⟩ (kept_path _ _)
theorem kept_near (p : PS) (s : Bs) : Kept p (near p s) := by unfold near; split <;> exact ⟨rfl, rfl⟩
theorem kept_file (p : PS) : Kept p (fileP p) := by
  unfold fileP
  refine Kept.trans (q := { p with u := { p.u with scheme := sFile, hasHost := true } }) ⟨rfl, rfl⟩ ?_
  generalize ({ p with u := { p.u with scheme := sFile, hasHost := true } } : PS) = q
  dsimp only
  (repeat' split)
  · exact kept_far _ _
  · exact kept_near _ _
  · exact kept_walk _ _ _
  · exact Kept.trans (p := q) ⟨rfl, rfl⟩ (kept_keep _)
  · exact ⟨rfl, rfl⟩
  · exact ⟨rfl, rfl⟩
theorem kept_schemed (p : PS) : Kept p (schemed p) := by
  unfold schemed opaqueP
  (repeat' split)
  · exact kept_file _
  · exact Kept.trans (p := p) ⟨rfl, rfl⟩ (kept_file _)
  · exact kept_relative _
  · exact kept_auth _ _
  · exact kept_auth _ _
  · exact kept_path _ _
  · exact ⟨rfl, rfl⟩
  · exact ⟨rfl, rfl⟩
theorem kept_plain (p : PS) : Kept p (plain p) := by
  unfold plain
  (repeat' split)
  · exact ⟨rfl, rfl⟩
  · exact ⟨rfl, rfl⟩
  · exact kept_file _
  · exact kept_relative _

theorem decodeF_len : ∀ (k : Nat) (l : Bs), (decodeF k l).length ≤ k
  | 0, _ => Nat.zero_le _
  | _ + 1, [] => Nat.zero_le _
  | k + 1, c :: t => by
    have := decodeF_len k ((c :: t).drop (first c t).2)
    simp only [decodeF, List.length_cons]
    omega
theorem clean_len (l : Bs) : (clean l).length ≤ 4 * l.length := by
  unfold clean dropWs
  have h1 := decodeF_len l.length l
  have h2 := encode_len (decode l)
  have h3 := trimB_len (encode (decode l))
  have h4 := (List.filter_sublist (l := trimB (encode (decode l))) (p := fun c => !(c == 9 || c == 10 || c == 13))).length_le
  unfold decode at *
  omega
theorem cut1_len (c : UInt8) (s : Bs) : (cut1 c s).1.length ≤ s.length ∧ (cut1 c s).2.1.length ≤ s.length := cut1_le c s
theorem schemeP_rest {s n r : Bs} (h : schemeP s = some (n, r)) : r.length ≤ s.length := by
  simp only [schemeP, Option.ite_none_right_eq_some, Option.some.injEq, Prod.mk.injEq] at h
  obtain ⟨_, _, rfl⟩ := h
  rw [List.length_drop]
  have := (List.dropWhile_suffix (l := s) (· != 58)).length_le
  omega
theorem start_len (l : Bs) (base : Option Url) : (start l base).rest.length ≤ (clean l).length ∧ (start l base).query.length ≤ (clean l).length ∧ (start l base).frag.length ≤ (clean l).length := by
  obtain ⟨a1, a2⟩ := cut1_le 35 (clean l)
  obtain ⟨b1, b2⟩ := cut1_le 63 (cut1 35 (clean l)).1
  unfold start
  dsimp only
  split
  · rename_i n r h
    refine ⟨?_, Nat.le_trans b2 a1, a2⟩
    have h := schemeP_rest h
    show r.length ≤ _
    omega
  · exact ⟨Nat.le_trans b1 a1, Nat.le_trans b2 a1, a2⟩
theorem run_len (l : Bs) (base : Option Url) : (run l base).query.length ≤ (clean l).length ∧ (run l base).frag.length ≤ (clean l).length := by
  obtain ⟨_, h2, h3⟩ := start_len l base
  unfold run
  split
  · rw [(kept_schemed _).1, (kept_schemed _).2]; exact ⟨h2, h3⟩
  · rw [(kept_plain _).1, (kept_plain _).2]; exact ⟨h2, h3⟩
end Go.Proofs.YtfonfcbibdfplaaGreatDoor

/- parse.Parse: contract, over what schemed and plain do. No condition. -/
namespace Go.Proofs.YtfonfcbibdfplaaGreatDoor
open Go.RowKit

def p0 (base : Option Url) : PS := ⟨{ Url.zero with port := -1 }, base, [], [], [], false⟩
theorem BaseW.up {w : World} {g g' : Nat} {bv : Value} {o : Option Url} (h : BaseW w g bv o) (hg : g ≤ g') : BaseW w g' bv o := by
  cases o with
  | none => exact h
  | some u =>
    obtain ⟨b, h1, pv, h2, h3, h4, h5⟩ := h
    exact ⟨b, h1, pv, by omega, h3, h4, fun k hk => Nat.lt_of_lt_of_le (h5 k hk) hg⟩
theorem p0_new (w : World) (base : Option Url) (bv : Value) (hb : BaseW w w.heap.size bv base) :
    PSW w.heap.size (p0 base) (w.alloc (.cells (psCells (p0 base) (.slice none 0 0) bv) 53)) := by
  refine ⟨.slice none 0 0, bv, heap_alloc_new w _, ⟨none, 0, rfl, Nat.le_refl _, .inl ⟨rfl, rfl⟩⟩, fun k hk => by simp [Value.ownBlock] at hk, ?_⟩
  exact hb.below ((Below.refl w.heap.size w).alloc (Nat.le_refl _) _) (Nat.le_refl _)
/-- After the cut at the hash, at the question mark, and with the scheme. -/
def pF (l : Bs) (base : Option Url) : PS := { p0 base with frag := (cut1 35 (clean l)).2.1, u := { (p0 base).u with hasF := (cut1 35 (clean l)).2.2 } }
def pQ (l : Bs) (base : Option Url) : PS := { pF l base with query := (cut1 63 (cut1 35 (clean l)).1).2.1, u := { (pF l base).u with hasQ := (cut1 63 (cut1 35 (clean l)).1).2.2 } }
def sB (l : Bs) : Bs := (cut1 63 (cut1 35 (clean l)).1).1

theorem start_some {l : Bs} {base : Option Url} {n r : Bs} (h : schemeP (sB l) = some (n, r)) : start l base = { pQ l base with rest := r, u := { (pQ l base).u with scheme := n } } := by
  unfold start
  unfold sB at h
  simp only [h]; rfl
theorem start_none {l : Bs} {base : Option Url} (h : schemeP (sB l) = none) : start l base = { pQ l base with rest := sB l } := by
  unfold start
  unfold sB at h
  simp only [h]; rfl

theorem loadUrl {w : World} {b : Nat} {cs : Array Value} (h : w.heap[b]? = some (.cells cs 25)) (hs : cs.size = 13) : (loadVar 25 ⟨b, 0, none⟩).run Tryz.prog w = .ok (.agg cs) w :=
  run_loadVar_row _ _ 25 25 cs (0, 0) _ h Tryz.underlying25 rfl (by rw [hs]; kernel_rfl)
theorem url_put {w : World} {g : Nat} {y0 y1 y2 y3 y4 y5 y6 y7 y8 y9 y10 y11 y12 : Value} (h : w.heap[g]? = some (.cells #[y0, y1, y2, y3, y4, y5, y6, y7, y8, y9, y10, y11, y12] 25)) (x0 x1 x2 x3 x4 x5 x6 x7 x8 x9 x10 x11 x12 : Value) :
    (((((((((((((w.setCell ⟨g, 0, none⟩ x0).setCell ⟨g, 1, none⟩ x1).setCell ⟨g, 2, none⟩ x2).setCell ⟨g, 3, none⟩ x3).setCell ⟨g, 4, none⟩ x4).setCell ⟨g, 5, none⟩ x5).setCell ⟨g, 6, none⟩ x6).setCell ⟨g, 7, none⟩ x7).setCell ⟨g, 8, none⟩ x8).setCell ⟨g, 9, none⟩ x9).setCell ⟨g, 10, none⟩ x10).setCell ⟨g, 11, none⟩ x11).setCell ⟨g, 12, none⟩ x12).heap[g]? =
      some (.cells #[x0, x1, x2, x3, x4, x5, x6, x7, x8, x9, x10, x11, x12] 25) := by
  have h' := set_of (set_of (set_of (set_of (set_of (set_of (set_of (set_of (set_of (set_of (set_of (set_of (set_of h 0 x0) 1 x1) 2 x2) 3 x3) 4 x4) 5 x5) 6 x6) 7 x7) 8 x8) 9 x9) 10 x10) 11 x11) 12 x12
  rw [h']; simp
theorem url_put_below {B : Nat} {w0 w : World} {g : Nat} (h : Below B w0 w) (hg : B ≤ g) (x0 x1 x2 x3 x4 x5 x6 x7 x8 x9 x10 x11 x12 : Value) :
    Below B w0 (((((((((((((w.setCell ⟨g, 0, none⟩ x0).setCell ⟨g, 1, none⟩ x1).setCell ⟨g, 2, none⟩ x2).setCell ⟨g, 3, none⟩ x3).setCell ⟨g, 4, none⟩ x4).setCell ⟨g, 5, none⟩ x5).setCell ⟨g, 6, none⟩ x6).setCell ⟨g, 7, none⟩ x7).setCell ⟨g, 8, none⟩ x8).setCell ⟨g, 9, none⟩ x9).setCell ⟨g, 10, none⟩ x10).setCell ⟨g, 11, none⟩ x11).setCell ⟨g, 12, none⟩ x12) :=
  below_set (below_set (below_set (below_set (below_set (below_set (below_set (below_set (below_set (below_set (below_set (below_set (below_set h hg 0 x0) hg 1 x1) hg 2 x2) hg 3 x3) hg 4 x4) hg 5 x5) hg 6 x6) hg 7 x7) hg 8 x8) hg 9 x9) hg 10 x10) hg 11 x11) hg 12 x12
theorem rd_set {w : World} {b : Nat} {v : Value} {vs : List Value} (h : Rd w v vs) (hk : ∀ k, v.ownBlock = some k → k ≠ b) (i : Nat) (x : Value) : Rd (w.setCell ⟨b, i, none⟩ x) v vs := by
  obtain ⟨a, c, rfl, hc, h⟩ := h
  refine ⟨a, c, rfl, hc, ?_⟩
  rcases h with h | ⟨g, o, rfl, h⟩
  · exact .inl h
  · refine .inr ⟨g, o, rfl, fun j u hj => ?_⟩
    rw [World.cell?_of_block (set_other g i _ (hk g rfl))]
    exact h j u hj
theorem url_put_rd {w : World} {g : Nat} {v : Value} {vs : List Value} (h : Rd w v vs) (hk : ∀ k, v.ownBlock = some k → k ≠ g) (x0 x1 x2 x3 x4 x5 x6 x7 x8 x9 x10 x11 x12 : Value) :
    Rd (((((((((((((w.setCell ⟨g, 0, none⟩ x0).setCell ⟨g, 1, none⟩ x1).setCell ⟨g, 2, none⟩ x2).setCell ⟨g, 3, none⟩ x3).setCell ⟨g, 4, none⟩ x4).setCell ⟨g, 5, none⟩ x5).setCell ⟨g, 6, none⟩ x6).setCell ⟨g, 7, none⟩ x7).setCell ⟨g, 8, none⟩ x8).setCell ⟨g, 9, none⟩ x9).setCell ⟨g, 10, none⟩ x10).setCell ⟨g, 11, none⟩ x11).setCell ⟨g, 12, none⟩ x12) v vs := (rd_set (rd_set (rd_set (rd_set (rd_set (rd_set (rd_set (rd_set (rd_set (rd_set (rd_set (rd_set (rd_set h hk 0 x0) hk 1 x1) hk 2 x2) hk 3 x3) hk 4 x4) hk 5 x5) hk 6 x6) hk 7 x7) hk 8 x8) hk 9 x9) hk 10 x10) hk 11 x11) hk 12 x12)
set_option maxRecDepth 100000 in
theorem cell_res {fn : Func} {p u : Tmp} {tmps : Array Value} {b : Nat} {k : Int} {cs : Array Value} {w : World} (h : fn.results = #[.cell p 25, .tmp u]) (hp : tmps.getD p undef = .pointer (some ⟨b, 0, none⟩)) (hu : tmps.getD u undef = .int .i64 k)
    (hL : (loadVar 25 ⟨b, 0, none⟩).run Tryz.prog w = .ok (.agg cs) w) : (results fn tmps).run Tryz.prog w = .ok (.tuple #[.agg cs, .int .i64 k]) w := by
  have ha : (asAddr (.pointer (some ⟨b, 0, none⟩))).run Tryz.prog w = .ok ⟨b, 0, none⟩ w := by simp [asAddr]
  rw [results_cell_tmp h, hp, hu, ha]
  simp only [Result.andThen, hL]
theorem zcells {w : World} {g : Nat} (h : w.heap[g]? = some (.cells #[.string ⟨#[]⟩, .string ⟨#[]⟩, .string ⟨#[]⟩, .string ⟨#[]⟩, .bool false, .int .i64 0, .bool false, .string ⟨#[]⟩, .slice none 0 0, .bool false, .bool false, .string ⟨#[]⟩, .string ⟨#[]⟩] 25)) : w.cell? ⟨g, 0, none⟩ = some (.string ⟨#[]⟩) ∧ w.cell? ⟨g, 1, none⟩ = some (.string ⟨#[]⟩) ∧ w.cell? ⟨g, 2, none⟩ = some (.string ⟨#[]⟩) ∧ w.cell? ⟨g, 3, none⟩ = some (.string ⟨#[]⟩) ∧ w.cell? ⟨g, 4, none⟩ = some (.bool false) ∧ w.cell? ⟨g, 5, none⟩ = some (.int .i64 0) ∧ w.cell? ⟨g, 6, none⟩ = some (.bool false) ∧ w.cell? ⟨g, 7, none⟩ = some (.string ⟨#[]⟩) ∧ w.cell? ⟨g, 8, none⟩ = some (.slice none 0 0) ∧ w.cell? ⟨g, 9, none⟩ = some (.bool false) ∧ w.cell? ⟨g, 10, none⟩ = some (.bool false) ∧ w.cell? ⟨g, 11, none⟩ = some (.string ⟨#[]⟩) ∧ w.cell? ⟨g, 12, none⟩ = some (.string ⟨#[]⟩) := by
  refine ⟨?_, ?_, ?_, ?_, ?_, ?_, ?_, ?_, ?_, ?_, ?_, ?_, ?_⟩ <;> (rw [cell_of h]; rfl)
theorem res_zero (w : World) (q : Option Addr) (W0 : World) (h : W0 = (w.alloc (.cells #[.string ⟨#[]⟩, .string ⟨#[]⟩, .string ⟨#[]⟩, .string ⟨#[]⟩, .bool false, .int .i64 0, .bool false, .string ⟨#[]⟩, .slice none 0 0, .bool false, .bool false, .string ⟨#[]⟩, .string ⟨#[]⟩] 25)).alloc (.cells #[.string ⟨#[]⟩, .string ⟨#[]⟩, .string ⟨#[]⟩, .string ⟨#[]⟩, .bool false, .int .i64 (-1), .bool false, .string ⟨#[]⟩, .slice none 0 0, .bool false, .bool false, .string ⟨#[]⟩, .string ⟨#[]⟩, .pointer q, .string ⟨#[]⟩, .string ⟨#[]⟩, .string ⟨#[]⟩, .bool false] 53)) : W0.heap[w.heap.size]? = some (.cells #[.string ⟨#[]⟩, .string ⟨#[]⟩, .string ⟨#[]⟩, .string ⟨#[]⟩, .bool false, .int .i64 0, .bool false, .string ⟨#[]⟩, .slice none 0 0, .bool false, .bool false, .string ⟨#[]⟩, .string ⟨#[]⟩] 25) := by
  subst h
  rw [((Below.refl (w.heap.size + 1) (w.alloc (.cells #[.string ⟨#[]⟩, .string ⟨#[]⟩, .string ⟨#[]⟩, .string ⟨#[]⟩, .bool false, .int .i64 0, .bool false, .string ⟨#[]⟩, .slice none 0 0, .bool false, .bool false, .string ⟨#[]⟩, .string ⟨#[]⟩] 25))).alloc (by simp) _).block w.heap.size (Nat.lt_succ_self _)]
  exact heap_alloc_new w _
end Go.Proofs.YtfonfcbibdfplaaGreatDoor

/- parse.Parse: one of its ways. No condition. -/
namespace Go.Proofs.YtfonfcbibdfplaaGreatDoor
open Go.RowKit

attribute [local irreducible] Lib.bytesWorld grownCap
set_option maxRecDepth 100000 in
set_option maxHeartbeats 2000000 in
theorem parse_Parse_some_bad (l : Bs) (base : Option Url) (nr : Bs × Bs) (q : Option Addr) (w : World) (hG : Gl w) (hb : BaseW w w.heap.size (.pointer q) base) (hl : (l.length : Int) ≤ 65536) (hcl : (clean l).length ≤ 1073741824)
    (hS : ∀ w1, hasScheme l = true → Gl w1 → PSW (w.heap.size + 1) (start l base) w1 → Calls Tryz.prog 35 #[.pointer (some ⟨w.heap.size + 1, 0, none⟩)] w1 fun e w' => e = .returned (.tuple #[]) ∧ PSW (w.heap.size + 1) (schemed (start l base)) w' ∧ Below (w.heap.size + 1) w1 w')
    (hq' : (run l base).query.length ≤ 1073741824) (hf' : (run l base).frag.length ≤ 1073741824) (hsc : schemeP (sB l) = some nr) (hbad : (schemed (start l base)).bad = true) :
    Calls Tryz.prog 15 #[.string (str l), .pointer q] w fun e w' => e = .returned (.tuple #[.agg (urlCells Url.zero (.slice none 0 0)).toArray, .int .i64 2]) ∧ Below w.heap.size w w' := by
  have hw0 : Below w.heap.size w ((w.alloc (.cells #[.string ⟨#[]⟩, .string ⟨#[]⟩, .string ⟨#[]⟩, .string ⟨#[]⟩, .bool false, .int .i64 0, .bool false, .string ⟨#[]⟩, .slice none 0 0, .bool false, .bool false, .string ⟨#[]⟩, .string ⟨#[]⟩] 25)).alloc (.cells #[.string ⟨#[]⟩, .string ⟨#[]⟩, .string ⟨#[]⟩, .string ⟨#[]⟩, .bool false, .int .i64 (-1), .bool false, .string ⟨#[]⟩, .slice none 0 0, .bool false, .bool false, .string ⟨#[]⟩, .string ⟨#[]⟩, .pointer q, .string ⟨#[]⟩, .string ⟨#[]⟩, .string ⟨#[]⟩, .bool false] 53)) := ((Below.refl w.heap.size w).alloc (Nat.le_refl _) _).alloc (by simp) _
  have hP0 : PSW (w.heap.size + 1) (p0 base) ((w.alloc (.cells #[.string ⟨#[]⟩, .string ⟨#[]⟩, .string ⟨#[]⟩, .string ⟨#[]⟩, .bool false, .int .i64 0, .bool false, .string ⟨#[]⟩, .slice none 0 0, .bool false, .bool false, .string ⟨#[]⟩, .string ⟨#[]⟩] 25)).alloc (.cells #[.string ⟨#[]⟩, .string ⟨#[]⟩, .string ⟨#[]⟩, .string ⟨#[]⟩, .bool false, .int .i64 (-1), .bool false, .string ⟨#[]⟩, .slice none 0 0, .bool false, .bool false, .string ⟨#[]⟩, .string ⟨#[]⟩, .pointer q, .string ⟨#[]⟩, .string ⟨#[]⟩, .string ⟨#[]⟩, .bool false] 53)) := by
    have h := p0_new (w.alloc (.cells #[.string ⟨#[]⟩, .string ⟨#[]⟩, .string ⟨#[]⟩, .string ⟨#[]⟩, .bool false, .int .i64 0, .bool false, .string ⟨#[]⟩, .slice none 0 0, .bool false, .bool false, .string ⟨#[]⟩, .string ⟨#[]⟩] 25)) base (.pointer q) ((hb.below ((Below.refl w.heap.size w).alloc (Nat.le_refl _) _) (Nat.le_refl _)).up (by simp))
    have hs : (w.alloc (.cells #[.string ⟨#[]⟩, .string ⟨#[]⟩, .string ⟨#[]⟩, .string ⟨#[]⟩, .bool false, .int .i64 0, .bool false, .string ⟨#[]⟩, .slice none 0 0, .bool false, .bool false, .string ⟨#[]⟩, .string ⟨#[]⟩] 25)).heap.size = w.heap.size + 1 := by simp
    rw [hs] at h
    exact h
  obtain ⟨W0, hW0⟩ : ∃ W0, W0 = (w.alloc (.cells #[.string ⟨#[]⟩, .string ⟨#[]⟩, .string ⟨#[]⟩, .string ⟨#[]⟩, .bool false, .int .i64 0, .bool false, .string ⟨#[]⟩, .slice none 0 0, .bool false, .bool false, .string ⟨#[]⟩, .string ⟨#[]⟩] 25)).alloc (.cells #[.string ⟨#[]⟩, .string ⟨#[]⟩, .string ⟨#[]⟩, .string ⟨#[]⟩, .bool false, .int .i64 (-1), .bool false, .string ⟨#[]⟩, .slice none 0 0, .bool false, .bool false, .string ⟨#[]⟩, .string ⟨#[]⟩, .pointer q, .string ⟨#[]⟩, .string ⟨#[]⟩, .string ⟨#[]⟩, .bool false] 53) := ⟨_, rfl⟩
  rw [← hW0] at hw0 hP0
  have hG0 := hG.next hw0
  have HC := Lib.hid (parse_Clean l W0 hG0 (by omega))
  have HW0 := Lib.hid hW0
  clear hW0
  have hR0 := res_zero w q W0 HW0.out
  have HR0 := Lib.hid hR0
  clear hR0
  have hc1 : (cut1 35 (clean l)).1.length ≤ (clean l).length := (List.takeWhile_sublist _).length_le
  have hc2 : (sB l).length ≤ (cut1 35 (clean l)).1.length := (List.takeWhile_sublist _).length_le
  have hgl : 7 < w.heap.size + 1 := by have := hG.size; omega
  obtain ⟨n, r⟩ := nr
  have hsv : schemeV (sB l) = .tuple #[.string (str n), .string (str r), .bool true] := by unfold schemeV; rw [hsc]
  have hsh : hasScheme l = true := by unfold hasScheme; unfold sB at hsc; rw [hsc]; rfl
  have hrun : run l base = schemed (start l base) := by unfold run; rw [hsh]; rfl
  rw [hrun] at hq' hf'
  have hst := start_some (base := base) hsc
  have HST := Lib.hid hst
  clear hst
  go_enter Tryz.func15, Tryz.ntmps15
  go_wp2_with (first
    | (go_at_call 25; rw [← HW0.out]; refine HC.out.mono ?_; rintro e w1 ⟨rfl, hw1⟩; have hP1 := hP0.next hw1; have hA1 := hw1.mono (Nat.le_of_lt hP0.lt); have hG1 := hG0.next hw1; have HK := Lib.hid (strings_Cut1 (clean l) 35 w1 hG1 hcl))
    | (have hk := HK; clear hk; go_at_call 33; refine HK.out.mono ?_; rintro e w2 ⟨rfl, hw2⟩; clear HK; have hP2 := hP1.next hw2; have z2 := hP2.fz; obtain ⟨pv2, bv2, a0, a1, a2, a3, a4, a5, a6, a7, a8, a9, a10, a11, a12, a13, a14, a15, a16, a17, _, _⟩ := hP2.cells; have hG2 := hG1.next hw2; have hA2 := hA1.trans (hw2.mono (Nat.le_of_lt hP1.lt));
        have hPF := (hP2.put (q := { p0 base with frag := (cut1 35 (clean l)).2.1 }) 16 (.string (str (cut1 35 (clean l)).2.1)) (fun _ _ => rfl) rfl rfl).put (q := pF l base) 10 (.bool (cut1 35 (clean l)).2.2) (fun _ _ => rfl) rfl rfl;
        have hwF := put_below _ _ (put_below _ _ (Below.refl (w.heap.size + 1) w2) 16 (.string (str (cut1 35 (clean l)).2.1))) 10 (.bool (cut1 35 (clean l)).2.2);
        have hGF := hG2.below hwF hgl; have hAF := hA2.trans hwF;
        have HK2 := Lib.hid (strings_Cut1 (cut1 35 (clean l)).1 63 _ hGF (Nat.le_trans hc1 hcl)))
    | (have hk := HK2; clear hk; go_at_call 33; refine HK2.out.mono ?_; rintro e w3 ⟨rfl, hw3⟩; clear HK2 z2; clear a0 a1 a2 a3 a4 a5 a6 a7 a8 a9 a10 a11 a12 a13 a14 a15 a16 a17; have hP3 := hPF.next hw3; have z3 := hP3.fz; obtain ⟨pv3, bv3, b0, b1, b2, b3, b4, b5, b6, b7, b8, b9, b10, b11, b12, b13, b14, b15, b16, b17, _, _⟩ := hP3.cells; have hG3 := hGF.next hw3; have hA3 := hAF.trans (hw3.mono (Nat.le_of_lt hPF.lt));
        have hPQ := (hP3.put (q := { pF l base with query := (cut1 63 (cut1 35 (clean l)).1).2.1 }) 15 (.string (str (cut1 63 (cut1 35 (clean l)).1).2.1)) (fun _ _ => rfl) rfl rfl).put (q := pQ l base) 9 (.bool (cut1 63 (cut1 35 (clean l)).1).2.2) (fun _ _ => rfl) rfl rfl;
        have hwQ := put_below _ _ (put_below _ _ (Below.refl (w.heap.size + 1) w3) 15 (.string (str (cut1 63 (cut1 35 (clean l)).1).2.1))) 9 (.bool (cut1 63 (cut1 35 (clean l)).1).2.2);
        have hGQ := hG3.below hwQ hgl; have hAQ := hA3.trans hwQ;
        have HS := Lib.hid (parse_scheme (sB l) _ hGQ (Nat.le_trans hc2 (Nat.le_trans hc1 hcl))))
    | (go_at_call 34; refine HS.out.mono ?_; rw [hsv]; rintro e w4 ⟨rfl, hw4⟩; clear z3; clear b0 b1 b2 b3 b4 b5 b6 b7 b8 b9 b10 b11 b12 b13 b14 b15 b16 b17; have hP4 := hPQ.next hw4; have z4 := hP4.fz; obtain ⟨pv4, bv4, d0, d1, d2, d3, d4, d5, d6, d7, d8, d9, d10, d11, d12, d13, d14, d15, d16, d17, _, _⟩ := hP4.cells; have hG4 := hGQ.next hw4; have hA4 := hAQ.trans (hw4.mono (Nat.le_of_lt hPQ.lt));
        have hPS : PSW (w.heap.size + 1) (start l base) _ := HST.out ▸ (hP4.put (q := { pQ l base with u := { (pQ l base).u with scheme := n } }) 0 (.string (str n)) (fun _ _ => rfl) rfl rfl).put (q := { pQ l base with rest := r, u := { (pQ l base).u with scheme := n } }) 14 (.string (str r)) (fun _ _ => rfl) rfl rfl;
        have hwS := put_below _ _ (put_below _ _ (Below.refl (w.heap.size + 1) w4) 0 (.string (str n))) 14 (.string (str r));
        have hGS := hG4.below hwS hgl; have hAS := hA4.trans hwS;
        have HX := Lib.hid (hS _ hsh hGS hPS))
      | (go_at_call 35; refine HX.out.mono ?_; rintro e w5 ⟨rfl, hP5, hw5⟩; have hA5 := hAS.trans hw5; have hR5 := (hA5.block w.heap.size (Nat.lt_succ_self _)).trans HR0.out; have zr := frozen_of hR5; obtain ⟨r0, r1, r2, r3, r4, r5, r6, r7, r8, r9, r10, r11, r12⟩ := zcells hR5; have HR5 := Lib.hid hR5; clear hR5; clear z4; clear d0 d1 d2 d3 d4 d5 d6 d7 d8 d9 d10 d11 d12 d13 d14 d15 d16 d17; have z5 := hP5.fz; obtain ⟨pv5, bv5, e0, e1, e2, e3, e4, e5, e6, e7, e8, e9, e10, e11, e12, e13, e14, e15, e16, e17, _, _⟩ := hP5.cells; rw [hbad] at e17; have HF := Lib.hid (par_finish _ _ w5 hP5 hq' hf'))
    | (go_at_call 37; refine HF.out.mono ?_; rintro e w6 ⟨rfl, hP6, hw6⟩; have hA6 := hA5.trans hw6; have hR6 := (hw6.block w.heap.size (Nat.lt_succ_self _)).trans HR5.out; have zq := frozen_of hR6; clear zr r0 r1 r2 r3 r4 r5 r6 r7 r8 r9 r10 r11 r12; obtain ⟨q0, q1, q2, q3, q4, q5, q6, q7, q8, q9, q10, q11, q12⟩ := zcells hR6; have HR6 := Lib.hid hR6; clear hR6; clear z5; clear e0 e1 e2 e3 e4 e5 e6 e7 e8 e9 e10 e11 e12 e13 e14 e15 e16 e17; have z6 := hP6.fz; obtain ⟨pv6, bv6, g0, g1, g2, g3, g4, g5, g6, g7, g8, g9, g10, g11, g12, g13, g14, g15, g16, g17, hpv6, _, hlt6⟩ := hP6.cells; have hRd6 := hpv6; obtain ⟨pa6, pc6, rfl, _, _⟩ := hpv6))
  have hfinal := url_put HR5.out (.string ⟨#[]⟩) (.string ⟨#[]⟩) (.string ⟨#[]⟩) (.string ⟨#[]⟩) (.bool false) (.int .i64 0) (.bool false) (.string ⟨#[]⟩) (.slice none 0 0) (.bool false) (.bool false) (.string ⟨#[]⟩) (.string ⟨#[]⟩)
  have hbel := url_put_below (hw0.trans (hA5.mono (Nat.le_succ _))) (Nat.le_refl w.heap.size) (.string ⟨#[]⟩) (.string ⟨#[]⟩) (.string ⟨#[]⟩) (.string ⟨#[]⟩) (.bool false) (.int .i64 0) (.bool false) (.string ⟨#[]⟩) (.slice none 0 0) (.bool false) (.bool false) (.string ⟨#[]⟩) (.string ⟨#[]⟩)
  have hL := loadUrl hfinal rfl
  exact bodyPost_ret (v := .tuple #[.agg (urlCells Url.zero (.slice none 0 0)).toArray, .int .i64 2]) (cell_res rfl rfl rfl hL) rfl ⟨rfl, hbel⟩

end Go.Proofs.YtfonfcbibdfplaaGreatDoor

/- parse.Parse: one of its ways. No condition. -/
namespace Go.Proofs.YtfonfcbibdfplaaGreatDoor
open Go.RowKit

attribute [local irreducible] Lib.bytesWorld grownCap
set_option maxRecDepth 100000 in
set_option maxHeartbeats 2000000 in
theorem parse_Parse_some_good (l : Bs) (base : Option Url) (nr : Bs × Bs) (q : Option Addr) (w : World) (hG : Gl w) (hb : BaseW w w.heap.size (.pointer q) base) (hl : (l.length : Int) ≤ 65536) (hcl : (clean l).length ≤ 1073741824)
    (hS : ∀ w1, hasScheme l = true → Gl w1 → PSW (w.heap.size + 1) (start l base) w1 → Calls Tryz.prog 35 #[.pointer (some ⟨w.heap.size + 1, 0, none⟩)] w1 fun e w' => e = .returned (.tuple #[]) ∧ PSW (w.heap.size + 1) (schemed (start l base)) w' ∧ Below (w.heap.size + 1) w1 w')
    (hq' : (run l base).query.length ≤ 1073741824) (hf' : (run l base).frag.length ≤ 1073741824) (hsc : schemeP (sB l) = some nr) (hbad : (schemed (start l base)).bad = false) :
    Calls Tryz.prog 15 #[.string (str l), .pointer q] w fun e w' => ∃ pv, e = .returned (.tuple #[.agg (urlCells (finish (schemed (start l base))).u pv).toArray, .int .i64 0]) ∧ Rd w' pv ((finish (schemed (start l base))).u.path.map strV) ∧ Below w.heap.size w w' ∧ (∀ k, pv.ownBlock = some k → w.heap.size ≤ k ∧ k < w'.heap.size) := by
  have hw0 : Below w.heap.size w ((w.alloc (.cells #[.string ⟨#[]⟩, .string ⟨#[]⟩, .string ⟨#[]⟩, .string ⟨#[]⟩, .bool false, .int .i64 0, .bool false, .string ⟨#[]⟩, .slice none 0 0, .bool false, .bool false, .string ⟨#[]⟩, .string ⟨#[]⟩] 25)).alloc (.cells #[.string ⟨#[]⟩, .string ⟨#[]⟩, .string ⟨#[]⟩, .string ⟨#[]⟩, .bool false, .int .i64 (-1), .bool false, .string ⟨#[]⟩, .slice none 0 0, .bool false, .bool false, .string ⟨#[]⟩, .string ⟨#[]⟩, .pointer q, .string ⟨#[]⟩, .string ⟨#[]⟩, .string ⟨#[]⟩, .bool false] 53)) := ((Below.refl w.heap.size w).alloc (Nat.le_refl _) _).alloc (by simp) _
  have hP0 : PSW (w.heap.size + 1) (p0 base) ((w.alloc (.cells #[.string ⟨#[]⟩, .string ⟨#[]⟩, .string ⟨#[]⟩, .string ⟨#[]⟩, .bool false, .int .i64 0, .bool false, .string ⟨#[]⟩, .slice none 0 0, .bool false, .bool false, .string ⟨#[]⟩, .string ⟨#[]⟩] 25)).alloc (.cells #[.string ⟨#[]⟩, .string ⟨#[]⟩, .string ⟨#[]⟩, .string ⟨#[]⟩, .bool false, .int .i64 (-1), .bool false, .string ⟨#[]⟩, .slice none 0 0, .bool false, .bool false, .string ⟨#[]⟩, .string ⟨#[]⟩, .pointer q, .string ⟨#[]⟩, .string ⟨#[]⟩, .string ⟨#[]⟩, .bool false] 53)) := by
    have h := p0_new (w.alloc (.cells #[.string ⟨#[]⟩, .string ⟨#[]⟩, .string ⟨#[]⟩, .string ⟨#[]⟩, .bool false, .int .i64 0, .bool false, .string ⟨#[]⟩, .slice none 0 0, .bool false, .bool false, .string ⟨#[]⟩, .string ⟨#[]⟩] 25)) base (.pointer q) ((hb.below ((Below.refl w.heap.size w).alloc (Nat.le_refl _) _) (Nat.le_refl _)).up (by simp))
    have hs : (w.alloc (.cells #[.string ⟨#[]⟩, .string ⟨#[]⟩, .string ⟨#[]⟩, .string ⟨#[]⟩, .bool false, .int .i64 0, .bool false, .string ⟨#[]⟩, .slice none 0 0, .bool false, .bool false, .string ⟨#[]⟩, .string ⟨#[]⟩] 25)).heap.size = w.heap.size + 1 := by simp
    rw [hs] at h
    exact h
  obtain ⟨W0, hW0⟩ : ∃ W0, W0 = (w.alloc (.cells #[.string ⟨#[]⟩, .string ⟨#[]⟩, .string ⟨#[]⟩, .string ⟨#[]⟩, .bool false, .int .i64 0, .bool false, .string ⟨#[]⟩, .slice none 0 0, .bool false, .bool false, .string ⟨#[]⟩, .string ⟨#[]⟩] 25)).alloc (.cells #[.string ⟨#[]⟩, .string ⟨#[]⟩, .string ⟨#[]⟩, .string ⟨#[]⟩, .bool false, .int .i64 (-1), .bool false, .string ⟨#[]⟩, .slice none 0 0, .bool false, .bool false, .string ⟨#[]⟩, .string ⟨#[]⟩, .pointer q, .string ⟨#[]⟩, .string ⟨#[]⟩, .string ⟨#[]⟩, .bool false] 53) := ⟨_, rfl⟩
  rw [← hW0] at hw0 hP0
  have hG0 := hG.next hw0
  have HC := Lib.hid (parse_Clean l W0 hG0 (by omega))
  have HW0 := Lib.hid hW0
  clear hW0
  have hR0 := res_zero w q W0 HW0.out
  have HR0 := Lib.hid hR0
  clear hR0
  have hc1 : (cut1 35 (clean l)).1.length ≤ (clean l).length := (List.takeWhile_sublist _).length_le
  have hc2 : (sB l).length ≤ (cut1 35 (clean l)).1.length := (List.takeWhile_sublist _).length_le
  have hgl : 7 < w.heap.size + 1 := by have := hG.size; omega
  obtain ⟨n, r⟩ := nr
  have hsv : schemeV (sB l) = .tuple #[.string (str n), .string (str r), .bool true] := by unfold schemeV; rw [hsc]
  have hsh : hasScheme l = true := by unfold hasScheme; unfold sB at hsc; rw [hsc]; rfl
  have hrun : run l base = schemed (start l base) := by unfold run; rw [hsh]; rfl
  rw [hrun] at hq' hf'
  have hst := start_some (base := base) hsc
  have HST := Lib.hid hst
  clear hst
  go_enter Tryz.func15, Tryz.ntmps15
  go_wp2_with (first
    | (go_at_call 25; rw [← HW0.out]; refine HC.out.mono ?_; rintro e w1 ⟨rfl, hw1⟩; have hP1 := hP0.next hw1; have hA1 := hw1.mono (Nat.le_of_lt hP0.lt); have hG1 := hG0.next hw1; have HK := Lib.hid (strings_Cut1 (clean l) 35 w1 hG1 hcl))
    | (have hk := HK; clear hk; go_at_call 33; refine HK.out.mono ?_; rintro e w2 ⟨rfl, hw2⟩; clear HK; have hP2 := hP1.next hw2; have z2 := hP2.fz; obtain ⟨pv2, bv2, a0, a1, a2, a3, a4, a5, a6, a7, a8, a9, a10, a11, a12, a13, a14, a15, a16, a17, _, _⟩ := hP2.cells; have hG2 := hG1.next hw2; have hA2 := hA1.trans (hw2.mono (Nat.le_of_lt hP1.lt));
        have hPF := (hP2.put (q := { p0 base with frag := (cut1 35 (clean l)).2.1 }) 16 (.string (str (cut1 35 (clean l)).2.1)) (fun _ _ => rfl) rfl rfl).put (q := pF l base) 10 (.bool (cut1 35 (clean l)).2.2) (fun _ _ => rfl) rfl rfl;
        have hwF := put_below _ _ (put_below _ _ (Below.refl (w.heap.size + 1) w2) 16 (.string (str (cut1 35 (clean l)).2.1))) 10 (.bool (cut1 35 (clean l)).2.2);
        have hGF := hG2.below hwF hgl; have hAF := hA2.trans hwF;
        have HK2 := Lib.hid (strings_Cut1 (cut1 35 (clean l)).1 63 _ hGF (Nat.le_trans hc1 hcl)))
    | (have hk := HK2; clear hk; go_at_call 33; refine HK2.out.mono ?_; rintro e w3 ⟨rfl, hw3⟩; clear HK2 z2; clear a0 a1 a2 a3 a4 a5 a6 a7 a8 a9 a10 a11 a12 a13 a14 a15 a16 a17; have hP3 := hPF.next hw3; have z3 := hP3.fz; obtain ⟨pv3, bv3, b0, b1, b2, b3, b4, b5, b6, b7, b8, b9, b10, b11, b12, b13, b14, b15, b16, b17, _, _⟩ := hP3.cells; have hG3 := hGF.next hw3; have hA3 := hAF.trans (hw3.mono (Nat.le_of_lt hPF.lt));
        have hPQ := (hP3.put (q := { pF l base with query := (cut1 63 (cut1 35 (clean l)).1).2.1 }) 15 (.string (str (cut1 63 (cut1 35 (clean l)).1).2.1)) (fun _ _ => rfl) rfl rfl).put (q := pQ l base) 9 (.bool (cut1 63 (cut1 35 (clean l)).1).2.2) (fun _ _ => rfl) rfl rfl;
        have hwQ := put_below _ _ (put_below _ _ (Below.refl (w.heap.size + 1) w3) 15 (.string (str (cut1 63 (cut1 35 (clean l)).1).2.1))) 9 (.bool (cut1 63 (cut1 35 (clean l)).1).2.2);
        have hGQ := hG3.below hwQ hgl; have hAQ := hA3.trans hwQ;
        have HS := Lib.hid (parse_scheme (sB l) _ hGQ (Nat.le_trans hc2 (Nat.le_trans hc1 hcl))))
    | (go_at_call 34; refine HS.out.mono ?_; rw [hsv]; rintro e w4 ⟨rfl, hw4⟩; clear z3; clear b0 b1 b2 b3 b4 b5 b6 b7 b8 b9 b10 b11 b12 b13 b14 b15 b16 b17; have hP4 := hPQ.next hw4; have z4 := hP4.fz; obtain ⟨pv4, bv4, d0, d1, d2, d3, d4, d5, d6, d7, d8, d9, d10, d11, d12, d13, d14, d15, d16, d17, _, _⟩ := hP4.cells; have hG4 := hGQ.next hw4; have hA4 := hAQ.trans (hw4.mono (Nat.le_of_lt hPQ.lt));
        have hPS : PSW (w.heap.size + 1) (start l base) _ := HST.out ▸ (hP4.put (q := { pQ l base with u := { (pQ l base).u with scheme := n } }) 0 (.string (str n)) (fun _ _ => rfl) rfl rfl).put (q := { pQ l base with rest := r, u := { (pQ l base).u with scheme := n } }) 14 (.string (str r)) (fun _ _ => rfl) rfl rfl;
        have hwS := put_below _ _ (put_below _ _ (Below.refl (w.heap.size + 1) w4) 0 (.string (str n))) 14 (.string (str r));
        have hGS := hG4.below hwS hgl; have hAS := hA4.trans hwS;
        have HX := Lib.hid (hS _ hsh hGS hPS))
      | (go_at_call 35; refine HX.out.mono ?_; rintro e w5 ⟨rfl, hP5, hw5⟩; have hA5 := hAS.trans hw5; have hR5 := (hA5.block w.heap.size (Nat.lt_succ_self _)).trans HR0.out; have zr := frozen_of hR5; obtain ⟨r0, r1, r2, r3, r4, r5, r6, r7, r8, r9, r10, r11, r12⟩ := zcells hR5; have HR5 := Lib.hid hR5; clear hR5; clear z4; clear d0 d1 d2 d3 d4 d5 d6 d7 d8 d9 d10 d11 d12 d13 d14 d15 d16 d17; have z5 := hP5.fz; obtain ⟨pv5, bv5, e0, e1, e2, e3, e4, e5, e6, e7, e8, e9, e10, e11, e12, e13, e14, e15, e16, e17, _, _⟩ := hP5.cells; rw [hbad] at e17; have HF := Lib.hid (par_finish _ _ w5 hP5 hq' hf'))
    | (go_at_call 37; refine HF.out.mono ?_; rintro e w6 ⟨rfl, hP6, hw6⟩; have hA6 := hA5.trans hw6; have hR6 := (hw6.block w.heap.size (Nat.lt_succ_self _)).trans HR5.out; have zq := frozen_of hR6; clear zr r0 r1 r2 r3 r4 r5 r6 r7 r8 r9 r10 r11 r12; obtain ⟨q0, q1, q2, q3, q4, q5, q6, q7, q8, q9, q10, q11, q12⟩ := zcells hR6; have HR6 := Lib.hid hR6; clear hR6; clear z5; clear e0 e1 e2 e3 e4 e5 e6 e7 e8 e9 e10 e11 e12 e13 e14 e15 e16 e17; have z6 := hP6.fz; obtain ⟨pv6, bv6, g0, g1, g2, g3, g4, g5, g6, g7, g8, g9, g10, g11, g12, g13, g14, g15, g16, g17, hpv6, _, hlt6⟩ := hP6.cells; have hRd6 := hpv6; obtain ⟨pa6, pc6, rfl, _, _⟩ := hpv6))
  have hlen : ((finish (schemed (start l base))).u.path.map strV).length = (finish (schemed (start l base))).u.path.length := List.length_map ..
  rw [hlen] at hRd6 hlt6
  generalize (finish (schemed (start l base))).u = U at *
  have hfinal := url_put HR6.out (.string (str U.scheme)) (.string (str U.user)) (.string (str U.pass)) (.string (str U.host)) (.bool U.hasHost) (.int .i64 U.port) (.bool U.opq) (.string (str U.text)) (.slice pa6 U.path.length pc6) (.bool U.hasQ) (.bool U.hasF) (.string (str U.query)) (.string (str U.frag))
  have hbel := url_put_below (hw0.trans (hA6.mono (Nat.le_succ _))) (Nat.le_refl w.heap.size) (.string (str U.scheme)) (.string (str U.user)) (.string (str U.pass)) (.string (str U.host)) (.bool U.hasHost) (.int .i64 U.port) (.bool U.opq) (.string (str U.text)) (.slice pa6 U.path.length pc6) (.bool U.hasQ) (.bool U.hasF) (.string (str U.query)) (.string (str U.frag))
  have hrdF := url_put_rd hRd6 (g := w.heap.size) (fun k hk => by have := (hlt6 k hk).1; omega) (.string (str U.scheme)) (.string (str U.user)) (.string (str U.pass)) (.string (str U.host)) (.bool U.hasHost) (.int .i64 U.port) (.bool U.opq) (.string (str U.text)) (.slice pa6 U.path.length pc6) (.bool U.hasQ) (.bool U.hasF) (.string (str U.query)) (.string (str U.frag))
  have hL := loadUrl hfinal rfl
  exact bodyPost_ret (v := .tuple #[.agg (urlCells U (.slice pa6 U.path.length pc6)).toArray, .int .i64 0]) (cell_res rfl rfl rfl hL) rfl ⟨_, rfl, hrdF, hbel, fun k hk => ⟨by have := (hlt6 k hk).1; omega, by have := (hlt6 k hk).2; simpa [World.setCell] using this⟩⟩

end Go.Proofs.YtfonfcbibdfplaaGreatDoor

/- parse.Parse: one of its ways. No condition. -/
namespace Go.Proofs.YtfonfcbibdfplaaGreatDoor
open Go.RowKit

attribute [local irreducible] Lib.bytesWorld grownCap
set_option maxRecDepth 100000 in
set_option maxHeartbeats 2000000 in
theorem parse_Parse_none_bad (l : Bs) (base : Option Url) (q : Option Addr) (w : World) (hG : Gl w) (hb : BaseW w w.heap.size (.pointer q) base) (hl : (l.length : Int) ≤ 65536) (hcl : (clean l).length ≤ 1073741824)
    (hN : ∀ w1, hasScheme l = false → Gl w1 → PSW (w.heap.size + 1) (start l base) w1 → Calls Tryz.prog 36 #[.pointer (some ⟨w.heap.size + 1, 0, none⟩)] w1 fun e w' => e = .returned (.tuple #[]) ∧ PSW (w.heap.size + 1) (plain (start l base)) w' ∧ Below (w.heap.size + 1) w1 w')
    (hq' : (run l base).query.length ≤ 1073741824) (hf' : (run l base).frag.length ≤ 1073741824) (hsc : schemeP (sB l) = none) (hbad : (plain (start l base)).bad = true) :
    Calls Tryz.prog 15 #[.string (str l), .pointer q] w fun e w' => e = .returned (.tuple #[.agg (urlCells Url.zero (.slice none 0 0)).toArray, .int .i64 2]) ∧ Below w.heap.size w w' := by
  have hw0 : Below w.heap.size w ((w.alloc (.cells #[.string ⟨#[]⟩, .string ⟨#[]⟩, .string ⟨#[]⟩, .string ⟨#[]⟩, .bool false, .int .i64 0, .bool false, .string ⟨#[]⟩, .slice none 0 0, .bool false, .bool false, .string ⟨#[]⟩, .string ⟨#[]⟩] 25)).alloc (.cells #[.string ⟨#[]⟩, .string ⟨#[]⟩, .string ⟨#[]⟩, .string ⟨#[]⟩, .bool false, .int .i64 (-1), .bool false, .string ⟨#[]⟩, .slice none 0 0, .bool false, .bool false, .string ⟨#[]⟩, .string ⟨#[]⟩, .pointer q, .string ⟨#[]⟩, .string ⟨#[]⟩, .string ⟨#[]⟩, .bool false] 53)) := ((Below.refl w.heap.size w).alloc (Nat.le_refl _) _).alloc (by simp) _
  have hP0 : PSW (w.heap.size + 1) (p0 base) ((w.alloc (.cells #[.string ⟨#[]⟩, .string ⟨#[]⟩, .string ⟨#[]⟩, .string ⟨#[]⟩, .bool false, .int .i64 0, .bool false, .string ⟨#[]⟩, .slice none 0 0, .bool false, .bool false, .string ⟨#[]⟩, .string ⟨#[]⟩] 25)).alloc (.cells #[.string ⟨#[]⟩, .string ⟨#[]⟩, .string ⟨#[]⟩, .string ⟨#[]⟩, .bool false, .int .i64 (-1), .bool false, .string ⟨#[]⟩, .slice none 0 0, .bool false, .bool false, .string ⟨#[]⟩, .string ⟨#[]⟩, .pointer q, .string ⟨#[]⟩, .string ⟨#[]⟩, .string ⟨#[]⟩, .bool false] 53)) := by
    have h := p0_new (w.alloc (.cells #[.string ⟨#[]⟩, .string ⟨#[]⟩, .string ⟨#[]⟩, .string ⟨#[]⟩, .bool false, .int .i64 0, .bool false, .string ⟨#[]⟩, .slice none 0 0, .bool false, .bool false, .string ⟨#[]⟩, .string ⟨#[]⟩] 25)) base (.pointer q) ((hb.below ((Below.refl w.heap.size w).alloc (Nat.le_refl _) _) (Nat.le_refl _)).up (by simp))
    have hs : (w.alloc (.cells #[.string ⟨#[]⟩, .string ⟨#[]⟩, .string ⟨#[]⟩, .string ⟨#[]⟩, .bool false, .int .i64 0, .bool false, .string ⟨#[]⟩, .slice none 0 0, .bool false, .bool false, .string ⟨#[]⟩, .string ⟨#[]⟩] 25)).heap.size = w.heap.size + 1 := by simp
    rw [hs] at h
    exact h
  obtain ⟨W0, hW0⟩ : ∃ W0, W0 = (w.alloc (.cells #[.string ⟨#[]⟩, .string ⟨#[]⟩, .string ⟨#[]⟩, .string ⟨#[]⟩, .bool false, .int .i64 0, .bool false, .string ⟨#[]⟩, .slice none 0 0, .bool false, .bool false, .string ⟨#[]⟩, .string ⟨#[]⟩] 25)).alloc (.cells #[.string ⟨#[]⟩, .string ⟨#[]⟩, .string ⟨#[]⟩, .string ⟨#[]⟩, .bool false, .int .i64 (-1), .bool false, .string ⟨#[]⟩, .slice none 0 0, .bool false, .bool false, .string ⟨#[]⟩, .string ⟨#[]⟩, .pointer q, .string ⟨#[]⟩, .string ⟨#[]⟩, .string ⟨#[]⟩, .bool false] 53) := ⟨_, rfl⟩
  rw [← hW0] at hw0 hP0
  have hG0 := hG.next hw0
  have HC := Lib.hid (parse_Clean l W0 hG0 (by omega))
  have HW0 := Lib.hid hW0
  clear hW0
  have hR0 := res_zero w q W0 HW0.out
  have HR0 := Lib.hid hR0
  clear hR0
  have hc1 : (cut1 35 (clean l)).1.length ≤ (clean l).length := (List.takeWhile_sublist _).length_le
  have hc2 : (sB l).length ≤ (cut1 35 (clean l)).1.length := (List.takeWhile_sublist _).length_le
  have hgl : 7 < w.heap.size + 1 := by have := hG.size; omega
  have hsv : schemeV (sB l) = .tuple #[.string (str []), .string (str (sB l)), .bool false] := by unfold schemeV; rw [hsc]
  have hsh : hasScheme l = false := by unfold hasScheme; unfold sB at hsc; rw [hsc]; rfl
  have hrun : run l base = plain (start l base) := by unfold run; rw [hsh]; rfl
  rw [hrun] at hq' hf'
  have hst := start_none (base := base) hsc
  have HST := Lib.hid hst
  clear hst
  go_enter Tryz.func15, Tryz.ntmps15
  go_wp2_with (first
    | (go_at_call 25; rw [← HW0.out]; refine HC.out.mono ?_; rintro e w1 ⟨rfl, hw1⟩; have hP1 := hP0.next hw1; have hA1 := hw1.mono (Nat.le_of_lt hP0.lt); have hG1 := hG0.next hw1; have HK := Lib.hid (strings_Cut1 (clean l) 35 w1 hG1 hcl))
    | (have hk := HK; clear hk; go_at_call 33; refine HK.out.mono ?_; rintro e w2 ⟨rfl, hw2⟩; clear HK; have hP2 := hP1.next hw2; have z2 := hP2.fz; obtain ⟨pv2, bv2, a0, a1, a2, a3, a4, a5, a6, a7, a8, a9, a10, a11, a12, a13, a14, a15, a16, a17, _, _⟩ := hP2.cells; have hG2 := hG1.next hw2; have hA2 := hA1.trans (hw2.mono (Nat.le_of_lt hP1.lt));
        have hPF := (hP2.put (q := { p0 base with frag := (cut1 35 (clean l)).2.1 }) 16 (.string (str (cut1 35 (clean l)).2.1)) (fun _ _ => rfl) rfl rfl).put (q := pF l base) 10 (.bool (cut1 35 (clean l)).2.2) (fun _ _ => rfl) rfl rfl;
        have hwF := put_below _ _ (put_below _ _ (Below.refl (w.heap.size + 1) w2) 16 (.string (str (cut1 35 (clean l)).2.1))) 10 (.bool (cut1 35 (clean l)).2.2);
        have hGF := hG2.below hwF hgl; have hAF := hA2.trans hwF;
        have HK2 := Lib.hid (strings_Cut1 (cut1 35 (clean l)).1 63 _ hGF (Nat.le_trans hc1 hcl)))
    | (have hk := HK2; clear hk; go_at_call 33; refine HK2.out.mono ?_; rintro e w3 ⟨rfl, hw3⟩; clear HK2 z2; clear a0 a1 a2 a3 a4 a5 a6 a7 a8 a9 a10 a11 a12 a13 a14 a15 a16 a17; have hP3 := hPF.next hw3; have z3 := hP3.fz; obtain ⟨pv3, bv3, b0, b1, b2, b3, b4, b5, b6, b7, b8, b9, b10, b11, b12, b13, b14, b15, b16, b17, _, _⟩ := hP3.cells; have hG3 := hGF.next hw3; have hA3 := hAF.trans (hw3.mono (Nat.le_of_lt hPF.lt));
        have hPQ := (hP3.put (q := { pF l base with query := (cut1 63 (cut1 35 (clean l)).1).2.1 }) 15 (.string (str (cut1 63 (cut1 35 (clean l)).1).2.1)) (fun _ _ => rfl) rfl rfl).put (q := pQ l base) 9 (.bool (cut1 63 (cut1 35 (clean l)).1).2.2) (fun _ _ => rfl) rfl rfl;
        have hwQ := put_below _ _ (put_below _ _ (Below.refl (w.heap.size + 1) w3) 15 (.string (str (cut1 63 (cut1 35 (clean l)).1).2.1))) 9 (.bool (cut1 63 (cut1 35 (clean l)).1).2.2);
        have hGQ := hG3.below hwQ hgl; have hAQ := hA3.trans hwQ;
        have HS := Lib.hid (parse_scheme (sB l) _ hGQ (Nat.le_trans hc2 (Nat.le_trans hc1 hcl))))
    | (go_at_call 34; refine HS.out.mono ?_; rw [hsv]; rintro e w4 ⟨rfl, hw4⟩; clear z3; clear b0 b1 b2 b3 b4 b5 b6 b7 b8 b9 b10 b11 b12 b13 b14 b15 b16 b17; have hP4 := hPQ.next hw4; have z4 := hP4.fz; obtain ⟨pv4, bv4, d0, d1, d2, d3, d4, d5, d6, d7, d8, d9, d10, d11, d12, d13, d14, d15, d16, d17, _, _⟩ := hP4.cells; have hG4 := hGQ.next hw4; have hA4 := hAQ.trans (hw4.mono (Nat.le_of_lt hPQ.lt));
        have hPS : PSW (w.heap.size + 1) (start l base) _ := HST.out ▸ (hP4.put (q := { pQ l base with u := { (pQ l base).u with scheme := [] } }) 0 (.string (str [])) (fun _ _ => rfl) rfl rfl).put (q := { pQ l base with rest := sB l, u := { (pQ l base).u with scheme := [] } }) 14 (.string (str (sB l))) (fun _ _ => rfl) rfl rfl;
        have hwS := put_below _ _ (put_below _ _ (Below.refl (w.heap.size + 1) w4) 0 (.string (str []))) 14 (.string (str (sB l)));
        have hGS := hG4.below hwS hgl; have hAS := hA4.trans hwS;
        have HX := Lib.hid (hN _ hsh hGS hPS))
      | (go_at_call 36; refine HX.out.mono ?_; rintro e w5 ⟨rfl, hP5, hw5⟩; have hA5 := hAS.trans hw5; have hR5 := (hA5.block w.heap.size (Nat.lt_succ_self _)).trans HR0.out; have zr := frozen_of hR5; obtain ⟨r0, r1, r2, r3, r4, r5, r6, r7, r8, r9, r10, r11, r12⟩ := zcells hR5; have HR5 := Lib.hid hR5; clear hR5; clear z4; clear d0 d1 d2 d3 d4 d5 d6 d7 d8 d9 d10 d11 d12 d13 d14 d15 d16 d17; have z5 := hP5.fz; obtain ⟨pv5, bv5, e0, e1, e2, e3, e4, e5, e6, e7, e8, e9, e10, e11, e12, e13, e14, e15, e16, e17, _, _⟩ := hP5.cells; rw [hbad] at e17; have HF := Lib.hid (par_finish _ _ w5 hP5 hq' hf'))
    | (go_at_call 37; refine HF.out.mono ?_; rintro e w6 ⟨rfl, hP6, hw6⟩; have hA6 := hA5.trans hw6; have hR6 := (hw6.block w.heap.size (Nat.lt_succ_self _)).trans HR5.out; have zq := frozen_of hR6; clear zr r0 r1 r2 r3 r4 r5 r6 r7 r8 r9 r10 r11 r12; obtain ⟨q0, q1, q2, q3, q4, q5, q6, q7, q8, q9, q10, q11, q12⟩ := zcells hR6; have HR6 := Lib.hid hR6; clear hR6; clear z5; clear e0 e1 e2 e3 e4 e5 e6 e7 e8 e9 e10 e11 e12 e13 e14 e15 e16 e17; have z6 := hP6.fz; obtain ⟨pv6, bv6, g0, g1, g2, g3, g4, g5, g6, g7, g8, g9, g10, g11, g12, g13, g14, g15, g16, g17, hpv6, _, hlt6⟩ := hP6.cells; have hRd6 := hpv6; obtain ⟨pa6, pc6, rfl, _, _⟩ := hpv6))
  have hfinal := url_put HR5.out (.string ⟨#[]⟩) (.string ⟨#[]⟩) (.string ⟨#[]⟩) (.string ⟨#[]⟩) (.bool false) (.int .i64 0) (.bool false) (.string ⟨#[]⟩) (.slice none 0 0) (.bool false) (.bool false) (.string ⟨#[]⟩) (.string ⟨#[]⟩)
  have hbel := url_put_below (hw0.trans (hA5.mono (Nat.le_succ _))) (Nat.le_refl w.heap.size) (.string ⟨#[]⟩) (.string ⟨#[]⟩) (.string ⟨#[]⟩) (.string ⟨#[]⟩) (.bool false) (.int .i64 0) (.bool false) (.string ⟨#[]⟩) (.slice none 0 0) (.bool false) (.bool false) (.string ⟨#[]⟩) (.string ⟨#[]⟩)
  have hL := loadUrl hfinal rfl
  exact bodyPost_ret (v := .tuple #[.agg (urlCells Url.zero (.slice none 0 0)).toArray, .int .i64 2]) (cell_res rfl rfl rfl hL) rfl ⟨rfl, hbel⟩

end Go.Proofs.YtfonfcbibdfplaaGreatDoor

