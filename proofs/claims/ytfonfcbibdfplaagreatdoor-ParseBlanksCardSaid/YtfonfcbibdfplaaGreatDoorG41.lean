import Derived.KernelRfl
import Derived.Test.YtfonfcbibdfplaaGreatDoorG40
import Derived.Test.YtfonfcbibdfplaaGreatDoorPsO
import Derived.Test.YtfonfcbibdfplaaGreatDoorG04
/- url.Bare, url.Print: contracts. No condition. -/
namespace Go.Proofs.YtfonfcbibdfplaaGreatDoor
open Go.RowKit

/-- How long a URL's parts may be for its text to be written. -/
structure Fits (u : Url) : Prop where
  sc : u.scheme.length ≤ 1073741824
  au : (authU u).length ≤ 1073741824
  pa : (pathU u).length ≤ 1073741824
  qu : u.query.length ≤ 1073741824
  fr : u.frag.length ≤ 1073741824
  p0 : -9223372036854775808 ≤ u.port
  p1 : u.port ≤ 9223372036854775807
theorem url_Bare (u : Url) (pv : Value) (w : World) (hG : Gl w) (hr : Rd w pv (u.path.map strV)) (hf : Fits u) :
    Calls Tryz.prog 29 #[.agg (urlCells u pv).toArray] w fun e w' => e = .returned (.string (str (bare u))) ∧ Below w.heap.size w w' := by
  have HA := Lib.hid (fun w h => url_authority u pv w h hf.au ⟨hf.p0, hf.p1⟩)
  have HP := Lib.hid (fun w' (hw : Below w.heap.size w w') => url_Path u pv w' (hr.next hw) hf.pa)
  have e0 : Value.agg (urlCells u pv).toArray = .agg #[.string (str u.scheme), .string (str u.user), .string (str u.pass), .string (str u.host), .bool u.hasHost, .int .i64 u.port, .bool u.opq, .string (str u.text), pv, .bool u.hasQ, .bool u.hasF, .string (str u.query), .string (str u.frag)] := rfl
  rw [e0] at HA HP ⊢
  have l1 := hf.sc
  have l2 := hf.au
  have l3 := hf.pa
  have l4 := hf.qu
  clear hf
  have eb : ∀ D : Bs, (if !u.hasHost && !u.opq && decide (1 < u.path.length) && (u.path.headD []).isEmpty then [47, 46] else [] : Bs) = D →
      bare u = u.scheme ++ [58] ++ authU u ++ D ++ pathU u ++ (if u.hasQ then 63 :: u.query else []) := by
    intro D hD; unfold bare; rw [hD]
  cases hh : u.hasHost with
  | true =>
    have hb := eb [] (by rw [hh]; rfl)
    rw [hb, List.append_nil]
    rw [hh] at HA HP
    cases hq : u.hasQ with
    | true => rw [hq] at HA HP; exact url_bare_11 u.scheme u.query (authU u) (pathU u) _ _ _ _ _ _ _ _ pv w hG l1 l2 l3 l4 HA HP
    | false => rw [hq] at HA HP; rw [if_neg (by decide), List.append_nil]; exact url_bare_10 u.scheme u.query (authU u) (pathU u) _ _ _ _ _ _ _ _ pv w hG l1 l2 l3 l4 HA HP
  | false =>
    rw [hh] at HA HP
    cases ho : u.opq with
    | true =>
      have hb := eb [] (by rw [hh, ho]; rfl)
      rw [hb, List.append_nil]
      rw [ho] at HA HP
      cases hq : u.hasQ with
      | true => rw [hq] at HA HP; exact url_bare_21 u.scheme u.query (authU u) (pathU u) _ _ _ _ _ _ _ pv w hG l1 l2 l3 l4 HA HP
      | false => rw [hq] at HA HP; rw [if_neg (by decide), List.append_nil]; exact url_bare_20 u.scheme u.query (authU u) (pathU u) _ _ _ _ _ _ _ pv w hG l1 l2 l3 l4 HA HP
    | false =>
      rw [ho] at HA HP
      by_cases h1 : 1 < u.path.length
      · have h1i : (1 : Int) < ((u.path.map strV).length : Int) := by rw [List.length_map]; omega
        have hne : u.path.map strV ≠ [] := by intro e; rw [List.map_eq_nil_iff] at e; rw [e] at h1; simp at h1
        have hlt := hr.lt hne
        obtain ⟨bk, o, c, rfl, hc, hx⟩ := hr.open hne
        have hbk := hlt bk rfl
        clear hr hlt hne hc
        generalize (u.path.map strV).length = N at *
        cases hp : u.path with
        | nil => rw [hp] at h1; simp at h1
        | cons x t =>
          have hcell := hx 0 (strV x) (by rw [hp]; rfl)
          rw [Nat.add_zero] at hcell
          cases hd : x.isEmpty with
          | true =>
            have h1' : decide (1 < (x :: t).length) = true := by rw [hp] at h1; exact decide_eq_true h1
            have hb := eb [47, 46] (by rw [hh, ho, hp, h1', show ((x :: t).headD []) = x from rfl, hd]; rfl)
            rw [hb]
            rw [List.isEmpty_iff.1 hd] at hcell
            cases hq : u.hasQ with
            | true => rw [hq] at HA HP; exact url_bare_51 u.scheme u.query (authU u) (pathU u) _ _ _ _ _ _ _ w hG bk o _ c h1i hcell hbk l1 l2 l3 l4 HA HP
            | false => rw [hq] at HA HP; rw [if_neg (by decide), List.append_nil]; exact url_bare_50 u.scheme u.query (authU u) (pathU u) _ _ _ _ _ _ _ w hG bk o _ c h1i hcell hbk l1 l2 l3 l4 HA HP
          | false =>
            have hb := eb [] (by rw [hh, ho, hp]; simp [hd])
            rw [hb, List.append_nil]
            cases hq : u.hasQ with
            | true => rw [hq] at HA HP; exact url_bare_41 u.scheme u.query (authU u) (pathU u) _ _ _ _ _ _ _ w hG bk o _ c x h1i hd hcell hbk l1 l2 l3 l4 HA HP
            | false => rw [hq] at HA HP; rw [if_neg (by decide), List.append_nil]; exact url_bare_40 u.scheme u.query (authU u) (pathU u) _ _ _ _ _ _ _ w hG bk o _ c x h1i hd hcell hbk l1 l2 l3 l4 HA HP
      · have hb := eb [] (by rw [hh, ho]; simp [h1])
        rw [hb, List.append_nil]
        obtain ⟨pa, pc, rfl, _, _⟩ := hr
        have h1i : ¬ (1 : Int) < ((u.path.map strV).length : Int) := by rw [List.length_map]; omega
        cases hq : u.hasQ with
        | true => rw [hq] at HA HP; exact url_bare_31 u.scheme u.query (authU u) (pathU u) _ _ _ _ _ _ _ w hG pa _ pc h1i l1 l2 l3 l4 HA HP
        | false => rw [hq] at HA HP; rw [if_neg (by decide), List.append_nil]; exact url_bare_30 u.scheme u.query (authU u) (pathU u) _ _ _ _ _ _ _ w hG pa _ pc h1i l1 l2 l3 l4 HA HP
set_option maxRecDepth 100000 in
set_option maxHeartbeats 2000000 in
theorem url_print_1 (f B : Bs) (v0 v1 v2 v3 v4 v5 v6 v7 v8 v9 v11 : Value) (w : World) (hG : Gl w) (l1 : B.length ≤ 9223372036854775000) (l3 : B.length + f.length ≤ 9223372036854775000)
    (HB : Hid (∀ w', Gl w' → Below w.heap.size w w' → Calls Tryz.prog 29 #[.agg #[v0, v1, v2, v3, v4, v5, v6, v7, v8, v9, .bool true, v11, .string (str f)]] w' fun e w'' => e = .returned (.string (str B)) ∧ Below w'.heap.size w' w'')) :
    Calls Tryz.prog 28 #[.agg #[v0, v1, v2, v3, v4, v5, v6, v7, v8, v9, .bool true, v11, .string (str f)]] w fun e w' => e = .returned (.string (str (B ++ 35 :: f))) ∧ Below w.heap.size w w' := by
  have b0 := BS.new #[v0, v1, v2, v3, v4, v5, v6, v7, v8, v9, .bool true, v11, .string (str f)] w hG
  have m1 : ¬ 9223372036854775807 < B.length + 1 := by omega
  have m2 : ¬ 9223372036854775807 < B.length + 1 + f.length := by omega
  clear l1 l3 hG
  go_enter Tryz.func28, Tryz.ntmps28
  go_wp2_with fail
  go_region_held3 (fun w' => w'.cell? ⟨w.heap.size, 0, none⟩ = some v0 ∧ w'.cell? ⟨w.heap.size, 1, none⟩ = some v1 ∧ w'.cell? ⟨w.heap.size, 2, none⟩ = some v2 ∧ w'.cell? ⟨w.heap.size, 3, none⟩ = some v3 ∧ w'.cell? ⟨w.heap.size, 4, none⟩ = some v4 ∧ w'.cell? ⟨w.heap.size, 5, none⟩ = some v5 ∧ w'.cell? ⟨w.heap.size, 6, none⟩ = some v6 ∧ w'.cell? ⟨w.heap.size, 7, none⟩ = some v7 ∧ w'.cell? ⟨w.heap.size, 8, none⟩ = some v8 ∧ w'.cell? ⟨w.heap.size, 9, none⟩ = some v9 ∧ w'.cell? ⟨w.heap.size, 10, none⟩ = some (.bool true) ∧ w'.cell? ⟨w.heap.size, 11, none⟩ = some v11 ∧ w'.cell? ⟨w.heap.size, 12, none⟩ = some (.string (str f))) (first | with_reducible exact cells13 b1.box | with_reducible exact cells13 b1.drew.box | with_reducible exact cells13 b0.box | with_reducible exact cells13 b0.drew.box) (first
    | (go_at_call 29; (with_reducible refine (HB.out _ b0.drew.gl b0.drew.bw).mono ?_); rintro e w1 ⟨rfl, hw1⟩; have b1 := b0.drew.next hw1))
  all_goals
    go_wp2_with fail
    go_ret
    refine ⟨?_, b1.bw⟩
    first | rfl | (refine ret_str ?_; simp)
set_option maxRecDepth 100000 in
set_option maxHeartbeats 2000000 in
theorem url_print_0 (B : Bs) (v0 v1 v2 v3 v4 v5 v6 v7 v8 v9 v11 v12 : Value) (w : World) (hG : Gl w)
    (HB : Hid (∀ w', Gl w' → Below w.heap.size w w' → Calls Tryz.prog 29 #[.agg #[v0, v1, v2, v3, v4, v5, v6, v7, v8, v9, .bool false, v11, v12]] w' fun e w'' => e = .returned (.string (str B)) ∧ Below w'.heap.size w' w'')) :
    Calls Tryz.prog 28 #[.agg #[v0, v1, v2, v3, v4, v5, v6, v7, v8, v9, .bool false, v11, v12]] w fun e w' => e = .returned (.string (str B)) ∧ Below w.heap.size w w' := by
  have b0 := BS.new #[v0, v1, v2, v3, v4, v5, v6, v7, v8, v9, .bool false, v11, v12] w hG
  clear hG
  go_enter Tryz.func28, Tryz.ntmps28
  go_wp2_with (first
    | (go_at_call 29; (with_reducible refine (HB.out _ b0.gl b0.bw).mono ?_); rintro e w1 ⟨rfl, hw1⟩; have b1 := b0.next hw1))
  go_ret
  exact ⟨rfl, b1.bw⟩
theorem bare_len (u : Url) (hf : Fits u) : (bare u).length ≤ 6442450944 := by
  have := hf.sc; have := hf.au; have := hf.pa; have := hf.qu
  unfold bare
  simp only [List.length_append, List.length_cons, List.length_nil]
  split <;> split <;> simp only [List.length_cons, List.length_nil] <;> omega
theorem url_Print (u : Url) (pv : Value) (w : World) (hG : Gl w) (hr : Rd w pv (u.path.map strV)) (hf : Fits u) :
    Calls Tryz.prog 28 #[.agg (urlCells u pv).toArray] w fun e w' => e = .returned (.string (str (printU u))) ∧ Below w.heap.size w w' := by
  have HB := Lib.hid (fun w' (h : Gl w') (hw : Below w.heap.size w w') => url_Bare u pv w' h (hr.next hw) hf)
  have hb := bare_len u hf
  have l2 := hf.fr
  have e0 : Value.agg (urlCells u pv).toArray = .agg #[.string (str u.scheme), .string (str u.user), .string (str u.pass), .string (str u.host), .bool u.hasHost, .int .i64 u.port, .bool u.opq, .string (str u.text), pv, .bool u.hasQ, .bool u.hasF, .string (str u.query), .string (str u.frag)] := rfl
  rw [e0] at HB ⊢
  unfold printU
  cases hq : u.hasF with
  | true => rw [hq] at HB; simpa using url_print_1 u.frag (bare u) _ _ _ _ _ _ _ _ _ _ _ w hG (by omega) (by omega) HB
  | false => rw [hq] at HB; simpa using url_print_0 (bare u) _ _ _ _ _ _ _ _ _ _ _ _ w hG HB
end Go.Proofs.YtfonfcbibdfplaaGreatDoor

/- Law 12's awake; words for the laws' walks. No condition. -/
namespace Go.Proofs.YtfonfcbibdfplaaGreatDoor
open Go.RowKit

/-- The world now: what stands in it still. -/
structure Wg (w w' : World) : Prop where
  gl : Gl w'
  bw : Below w.heap.size w w'
  g0 : Gl w
theorem Wg.next {w w1 w2 : World} (h : Wg w w1) (hb : Below w1.heap.size w1 w2) : Wg w w2 := ⟨h.gl.next hb, h.bw.trans (hb.mono h.bw.size), h.g0⟩
theorem Wg.alloc {w w1 : World} (h : Wg w w1) (o : Obj) : Wg w (w1.alloc o) := h.next ((Below.refl _ _).alloc (Nat.le_refl _) _)
theorem Wg.refl {w : World} (h : Gl w) : Wg w w := ⟨h, Below.refl _ _, h⟩
/-- Block b holds a URL. -/
structure Ub (w : World) (b : Nat) (u : Url) (pv : Value) : Prop where
  box : w.heap[b]? = some (.cells #[.string (str u.scheme), .string (str u.user), .string (str u.pass), .string (str u.host), .bool u.hasHost, .int .i64 u.port, .bool u.opq, .string (str u.text), pv, .bool u.hasQ, .bool u.hasF, .string (str u.query), .string (str u.frag)] 25)
  rd : Rd w pv (u.path.map strV)
  own : ∀ k, pv.ownBlock = some k → k < w.heap.size
  lt : b < w.heap.size
theorem Ub.next {w w2 : World} {b : Nat} {u : Url} {pv : Value} (h : Ub w b u pv) (hw : Below w.heap.size w w2) : Ub w2 b u pv :=
  ⟨(hw.block b h.lt).trans h.box, h.rd.next hw, fun k hk => Nat.lt_of_lt_of_le (h.own k hk) hw.size, Nat.lt_of_lt_of_le h.lt hw.size⟩
theorem Ub.alloc {w : World} {b : Nat} {u : Url} {pv : Value} (h : Ub w b u pv) (o : Obj) : Ub (w.alloc o) b u pv := h.next ((Below.refl _ _).alloc (Nat.le_refl _) _)
theorem Ub.new {w : World} {n : Nat} {u : Url} {pv : Value} (hr : Rd w pv (u.path.map strV)) (ho : ∀ k, pv.ownBlock = some k → n ≤ k ∧ k < w.heap.size) :
    Ub (w.alloc (.cells #[.string (str u.scheme), .string (str u.user), .string (str u.pass), .string (str u.host), .bool u.hasHost, .int .i64 u.port, .bool u.opq, .string (str u.text), pv, .bool u.hasQ, .bool u.hasF, .string (str u.query), .string (str u.frag)] 25)) w.heap.size u pv := by
  have hb : Below w.heap.size w (w.alloc (.cells #[.string (str u.scheme), .string (str u.user), .string (str u.pass), .string (str u.host), .bool u.hasHost, .int .i64 u.port, .bool u.opq, .string (str u.text), pv, .bool u.hasQ, .bool u.hasF, .string (str u.query), .string (str u.frag)] 25)) := (Below.refl _ _).alloc (Nat.le_refl _) _
  exact ⟨heap_alloc_new w _, hr.next hb, fun k hk => Nat.lt_of_lt_of_le (ho k hk).2 hb.size, by simp⟩
theorem Ub.base {w : World} {b : Nat} {u : Url} {pv : Value} (h : Ub w b u pv) : BaseW w w.heap.size (.pointer (some ⟨b, 0, none⟩)) (some u) :=
  ⟨b, rfl, pv, h.lt, fun j x hj => by
    rw [cell_of h.box]
    rw [← hj]
    simp [urlCells], h.rd, h.own⟩

/-- The URL in a block is put over by another one. -/
theorem Ub.put {w : World} {b n : Nat} {u U : Url} {pv qv : Value} (h : Ub w b u pv) (hr : Rd w qv (U.path.map strV)) (ho : ∀ k, qv.ownBlock = some k → n ≤ k ∧ k < w.heap.size) (hn : b < n) :
    Ub (((((((((((((w.setCell ⟨b, 0, none⟩ (.string (str U.scheme))).setCell ⟨b, 1, none⟩ (.string (str U.user))).setCell ⟨b, 2, none⟩ (.string (str U.pass))).setCell ⟨b, 3, none⟩ (.string (str U.host))).setCell ⟨b, 4, none⟩ (.bool U.hasHost)).setCell ⟨b, 5, none⟩ (.int .i64 U.port)).setCell ⟨b, 6, none⟩ (.bool U.opq)).setCell ⟨b, 7, none⟩ (.string (str U.text))).setCell ⟨b, 8, none⟩ qv).setCell ⟨b, 9, none⟩ (.bool U.hasQ)).setCell ⟨b, 10, none⟩ (.bool U.hasF)).setCell ⟨b, 11, none⟩ (.string (str U.query))).setCell ⟨b, 12, none⟩ (.string (str U.frag))) b U qv := by
  have hne : ∀ k, qv.ownBlock = some k → k ≠ b := fun k hk => by have := (ho k hk).1; omega
  refine ⟨url_put h.box _ _ _ _ _ _ _ _ _ _ _ _ _, url_put_rd hr hne _ _ _ _ _ _ _ _ _ _ _ _ _, fun k hk => ?_, ?_⟩
  · have := (ho k hk).2; simpa [World.setCell] using this
  · have := h.lt; simpa [World.setCell] using this
theorem put_wg {w w1 : World} {b : Nat} (h : Wg w w1) (hb : w.heap.size ≤ b) (x0 x1 x2 x3 x4 x5 x6 x7 x8 x9 x10 x11 x12 : Value) :
    Wg w (((((((((((((w1.setCell ⟨b, 0, none⟩ x0).setCell ⟨b, 1, none⟩ x1).setCell ⟨b, 2, none⟩ x2).setCell ⟨b, 3, none⟩ x3).setCell ⟨b, 4, none⟩ x4).setCell ⟨b, 5, none⟩ x5).setCell ⟨b, 6, none⟩ x6).setCell ⟨b, 7, none⟩ x7).setCell ⟨b, 8, none⟩ x8).setCell ⟨b, 9, none⟩ x9).setCell ⟨b, 10, none⟩ x10).setCell ⟨b, 11, none⟩ x11).setCell ⟨b, 12, none⟩ x12) :=
  have hbw := url_put_below h.bw hb x0 x1 x2 x3 x4 x5 x6 x7 x8 x9 x10 x11 x12
  ⟨h.g0.next hbw, hbw, h.g0⟩

def fl12 : Bs := [102, 105, 108, 101, 58, 47, 47, 47, 68, 58, 47, 121]
def fu12 : Url := ⟨[102, 105, 108, 101], [], [], [], true, -1, false, [], [[68, 58], [121]], false, false, [], []⟩
def cl12 : Bs := [67, 124, 47, 120]
def cu12 : Url := ⟨[102, 105, 108, 101], [], [], [], true, -1, false, [], [[67, 58], [120]], false, false, [], []⟩
set_option maxRecDepth 100000 in
theorem fl12_parse : parse fl12 none = (fu12, 0) := by kernel_rfl
set_option maxRecDepth 100000 in
theorem cl12_parse : parse cl12 (some fu12) = (cu12, 0) := by kernel_rfl
theorem cu12_print : printU cu12 = [102, 105, 108, 101, 58, 47, 47, 47, 67, 58, 47, 120] := by decide +kernel
theorem cu12_fits : Fits cu12 := ⟨by decide, by decide, by decide, by decide, by decide, by decide, by decide⟩
set_option maxRecDepth 100000 in
set_option maxHeartbeats 2000000 in
theorem law12_awake (w : World) (hG : Gl w) :
    Calls Tryz.prog 23 #[] w fun e w' => e = .returned (.bool true) ∧ Below w.heap.size w w' := by
  have HP : Hid (∀ w, Gl w → Calls Tryz.prog 15 #[.string ⟨#[102, 105, 108, 101, 58, 47, 47, 47, 68, 58, 47, 121]⟩, .pointer none] w fun e w' => ∃ pa pn pc, e = .returned (.tuple #[.agg #[.string ⟨#[102, 105, 108, 101]⟩, .string ⟨#[]⟩, .string ⟨#[]⟩, .string ⟨#[]⟩, .bool true, .int .i64 (-1), .bool false, .string ⟨#[]⟩, .slice pa pn pc, .bool false, .bool false, .string ⟨#[]⟩, .string ⟨#[]⟩], .int .i64 0]) ∧ Rd w' (.slice pa pn pc) (fu12.path.map strV) ∧ Below w.heap.size w w' ∧ (∀ k, (Value.slice pa pn pc).ownBlock = some k → w.heap.size ≤ k ∧ k < w'.heap.size)) :=
    Lib.hid (fun w h => (fl12_parse ▸ parse_ParseO fl12 none none w h rfl (fun _ hb => by cases hb)).mono fun _ _ ⟨pv, h1, h2, h3, h4⟩ => by
      obtain ⟨pa, pc, rfl, hh⟩ := h2
      exact ⟨pa, _, pc, h1, ⟨pa, pc, rfl, hh⟩, h3, h4⟩)
  have HP2 : Hid (∀ w b pv, Gl w → Ub w b fu12 pv → Calls Tryz.prog 15 #[.string ⟨#[67, 124, 47, 120]⟩, .pointer (some ⟨b, 0, none⟩)] w fun e w' => ∃ pa pn pc, e = .returned (.tuple #[.agg #[.string ⟨#[102, 105, 108, 101]⟩, .string ⟨#[]⟩, .string ⟨#[]⟩, .string ⟨#[]⟩, .bool true, .int .i64 (-1), .bool false, .string ⟨#[]⟩, .slice pa pn pc, .bool false, .bool false, .string ⟨#[]⟩, .string ⟨#[]⟩], .int .i64 0]) ∧ Rd w' (.slice pa pn pc) (cu12.path.map strV) ∧ Below w.heap.size w w') :=
    Lib.hid (fun w b pv h hu => (cl12_parse ▸ parse_ParseO cl12 (some fu12) (some ⟨b, 0, none⟩) w h hu.base (fun _ hb => by cases hb; decide)).mono fun _ _ ⟨pv, h1, h2, h3, h4⟩ => by
      obtain ⟨pa, pc, rfl, hh⟩ := h2
      exact ⟨pa, _, pc, h1, ⟨pa, pc, rfl, hh⟩, h3⟩)
  have HPr : Hid (∀ pa pn pc w, Gl w → Rd w (.slice pa pn pc) (cu12.path.map strV) → Calls Tryz.prog 28 #[.agg #[.string ⟨#[102, 105, 108, 101]⟩, .string ⟨#[]⟩, .string ⟨#[]⟩, .string ⟨#[]⟩, .bool true, .int .i64 (-1), .bool false, .string ⟨#[]⟩, .slice pa pn pc, .bool false, .bool false, .string ⟨#[]⟩, .string ⟨#[]⟩]] w fun e w' => e = .returned (.string ⟨#[102, 105, 108, 101, 58, 47, 47, 47, 67, 58, 47, 120]⟩) ∧ Below w.heap.size w w') :=
    Lib.hid (fun pa pn pc w h hr => by
      have hh := url_Print cu12 (.slice pa pn pc) w h hr cu12_fits
      rw [cu12_print] at hh
      exact hh)
  have lg := Wg.refl hG
  clear hG
  go_enter Tryz.func23, Tryz.ntmps23
  go_wp2_with (first
    | (go_at_call 15; (with_reducible refine (HP.out _ lg.gl).mono ?_); rintro e w1 ⟨pa, pn, pc, rfl, hr1, hw1, ho1⟩; have ub := Ub.new (u := fu12) hr1 ho1; have lg := (lg.next hw1).alloc (.cells #[.string (str fu12.scheme), .string (str fu12.user), .string (str fu12.pass), .string (str fu12.host), .bool fu12.hasHost, .int .i64 fu12.port, .bool fu12.opq, .string (str fu12.text), .slice pa pn pc, .bool fu12.hasQ, .bool fu12.hasF, .string (str fu12.query), .string (str fu12.frag)] 25))
    | (go_at_call 15; (refine (HP2.out _ _ _ lg.gl ub).mono ?_); rintro e w2 ⟨qa, qn, qc, rfl, hr2, hw2⟩; have hr2 := hr2.next ((Below.refl w2.heap.size w2).alloc (Nat.le_refl _) (.cells #[.string ⟨#[102, 105, 108, 101]⟩, .string ⟨#[]⟩, .string ⟨#[]⟩, .string ⟨#[]⟩, .bool true, .int .i64 (-1), .bool false, .string ⟨#[]⟩, .slice qa qn qc, .bool false, .bool false, .string ⟨#[]⟩, .string ⟨#[]⟩] 25)); have lg := (lg.next hw2).alloc (.cells #[.string ⟨#[102, 105, 108, 101]⟩, .string ⟨#[]⟩, .string ⟨#[]⟩, .string ⟨#[]⟩, .bool true, .int .i64 (-1), .bool false, .string ⟨#[]⟩, .slice qa qn qc, .bool false, .bool false, .string ⟨#[]⟩, .string ⟨#[]⟩] 25))
    | (go_at_call 28; (with_reducible refine (HPr.out _ _ _ _ lg.gl hr2).mono ?_); rintro e w3 ⟨rfl, hw3⟩; have lg := lg.next hw3))
  go_ret
  exact ⟨rfl, lg.bw⟩
end Go.Proofs.YtfonfcbibdfplaaGreatDoor

/- Cleaning: bytes read as characters and written (fix), piece by piece at plain bytes: plain laws. No condition. -/
namespace Go.Proofs.YtfonfcbibdfplaaGreatDoor

def fix (l : Bs) : Bs := encode (decode l)
theorem clean_eq (l : Bs) : clean l = dropWs (trimB (fix l)) := rfl
theorem fix_nil : fix [] = [] := rfl
theorem fix_cons (c : UInt8) (t : Bs) : fix (c :: t) = enc1 (first c t).1 ++ fix ((c :: t).drop (first c t).2) := by
  unfold fix; rw [decode_cons]; simp [encode]
theorem enc1_low {c : UInt8} (h : c < 128) : enc1 (c.toNat : Int) = [c] := by
  have h' : c.toNat < 128 := h
  unfold enc1
  rw [if_pos ⟨by omega, by omega⟩]
  simp [byteOf]
theorem fix_low {c : UInt8} (h : c < 128) (t : Bs) : fix (c :: t) = c :: fix t := by
  rw [fix_cons]
  have e : first c t = ((c.toNat : Int), 1) := by simp [first, h]
  rw [e, enc1_low h]; rfl
/-- How many bytes go on does not turn by what stands behind a plain byte. -/
theorem conts_app {c : UInt8} (hc : c < 128) (r : Bs) : ∀ (m : Nat) (lo hi : UInt8) (t : Bs), 128 ≤ lo.toNat → conts m lo hi (t ++ c :: r) = conts m lo hi t
  | 0, _, _, _, _ => rfl
  | m + 1, lo, hi, [], h => by
    have h' : c.toNat < 128 := hc
    show conts (m + 1) lo hi (c :: r) = _
    rw [conts_miss (by omega)]; rfl
  | m + 1, lo, hi, d :: t, h => by
    show conts (m + 1) lo hi (d :: (t ++ c :: r)) = conts (m + 1) lo hi (d :: t)
    simp only [conts]
    rw [conts_app hc r m 0x80 0xBF t (by decide)]
theorem span_lo {c lo hi : UInt8} {m : Nat} (h : spanB c = (lo, hi, m)) : m = 0 ∨ 128 ≤ lo.toNat ∧ 2 ≤ m := by
  have := span_facts h; omega
theorem first_app {c : UInt8} (hc : c < 128) (d : UInt8) (t r : Bs) : first d (t ++ c :: r) = first d t := by
  by_cases ha : d < 128
  · simp [first, ha]
  · rcases hs : spanB d with ⟨lo, hi, m⟩
    rw [first_eq hs ha rfl, first_eq hs ha rfl]
    rcases span_lo hs with h0 | ⟨h0, h2⟩
    · simp [h0]
    · rw [conts_app hc r (m - 1) lo hi t h0]
      have hle := conts_le (m - 1) lo hi t
      by_cases h1 : 1 + conts (m - 1) lo hi t < m
      · simp [h1]
      · have ht : m ≤ (d :: t).length := by simp only [List.length_cons]; omega
        have e : (d :: (t ++ c :: r)).take m = (d :: t).take m := by
          rw [show d :: (t ++ c :: r) = (d :: t) ++ c :: r from rfl, List.take_append_of_le_length ht]
        rw [e]
theorem fix_app {c : UInt8} (hc : c < 128) (r : Bs) : ∀ (n : Nat) (a : Bs), a.length ≤ n → fix (a ++ c :: r) = fix a ++ c :: fix r
  | _, [], _ => by rw [List.nil_append, fix_low hc]; rfl
  | 0, _ :: _, h => by simp at h
  | n + 1, d :: t, h => by
    have hp := first_pos d t
    show fix (d :: (t ++ c :: r)) = _
    rw [fix_cons, fix_cons d t, first_app hc]
    have e : (d :: (t ++ c :: r)).drop (first d t).2 = (d :: t).drop (first d t).2 ++ c :: r := by
      rw [show d :: (t ++ c :: r) = (d :: t) ++ c :: r from rfl, List.drop_append_of_le_length (by simp only [List.length_cons]; omega)]
    rw [e, fix_app hc r n ((d :: t).drop (first d t).2) (by simp only [List.length_drop, List.length_cons] at *; omega), List.append_assoc]
theorem fix_split {c : UInt8} (hc : c < 128) (a r : Bs) : fix (a ++ c :: r) = fix a ++ c :: fix r := fix_app hc r a.length a (Nat.le_refl _)
def plainB (l : Bs) : Prop := ∀ c ∈ l, c < 128
theorem fix_plain : ∀ {l : Bs}, plainB l → fix l = l
  | [], _ => rfl
  | c :: t, h => by rw [fix_low (h c (by simp)), fix_plain (l := t) (fun x hx => h x (by simp [hx]))]
theorem fix_plain_app {a : Bs} (h : plainB a) (r : Bs) : fix (a ++ r) = a ++ fix r := by
  induction a with
  | nil => rfl
  | cons c t ih => show fix (c :: (t ++ r)) = _; rw [fix_low (h c (by simp)), ih (fun x hx => h x (by simp [hx]))]; rfl
theorem enc1_high {r : Int} (h : 128 ≤ r) : ∀ c ∈ enc1 r, 128 ≤ c.toNat := by
  intro c hc
  unfold enc1 at hc
  have hb : ∀ n : Int, 128 ≤ n → n < 256 → 128 ≤ (byteOf n).toNat := by
    intro n h0 h1
    unfold byteOf
    rw [UInt8.toNat_ofNat']
    omega
  split at hc
  · omega
  split at hc
  · rename_i h1
    simp only [List.mem_cons, List.not_mem_nil, or_false] at hc
    rcases hc with rfl | rfl <;> apply hb <;> omega
  split at hc
  · rename_i h1
    simp only [List.mem_cons, List.not_mem_nil, or_false] at hc
    rcases hc with rfl | rfl | rfl <;> apply hb <;> omega
  split at hc
  · rename_i h1
    simp only [List.mem_cons, List.not_mem_nil, or_false] at hc
    rcases hc with rfl | rfl | rfl | rfl <;> apply hb <;> omega
  · simp only [List.mem_cons, List.not_mem_nil, or_false] at hc
    rcases hc with rfl | rfl | rfl <;> decide
theorem first_high {c : UInt8} (h : ¬ c < 128) (t : Bs) : 128 ≤ (first c t).1 := by
  rcases hs : spanB c with ⟨lo, hi, m⟩
  rw [first_eq hs h rfl]
  have := conts_le (m - 1) lo hi t
  have hf := span_facts hs
  split
  · simp
  · split
    · simp
    · have := runeOf_range hs (t := t) (by omega) (by omega)
      simp; omega
/-- A plain byte of what was fixed stood there. -/
theorem fix_mem {d : UInt8} (hd : d < 128) : ∀ (n : Nat) (l : Bs), l.length ≤ n → d ∈ fix l → d ∈ l
  | _, [], _, h => by simp [fix_nil] at h
  | 0, _ :: _, h0, _ => by simp at h0
  | n + 1, c :: t, h0, h => by
    have hp := first_pos c t
    rw [fix_cons, List.mem_append] at h
    rcases h with h | h
    · by_cases hc : c < 128
      · have e : first c t = ((c.toNat : Int), 1) := by simp [first, hc]
        rw [e, enc1_low hc] at h
        simp at h; simp [h]
      · have := enc1_high (first_high hc t) d h
        have : d.toNat < 128 := hd
        omega
    · have := fix_mem hd n _ (by simp only [List.length_drop, List.length_cons] at *; omega) h
      exact List.mem_of_mem_drop this
theorem fix_mem' {d : UInt8} (hd : d < 128) {l : Bs} (h : d ∈ fix l) : d ∈ l := fix_mem hd l.length l (Nat.le_refl _) h
/-- Text without a blank or a control byte is not trimmed. -/
theorem clean_noblank {l : Bs} (h : ∀ c ∈ l, 32 < c) : clean l = fix l := by
  have hf : ∀ c ∈ fix l, blank c = false := by
    intro c hc
    by_cases h1 : c < 128
    · have := h c (fix_mem' h1 hc)
      simp [blank]; exact this
    · simp [blank]
      have h1' : ¬ c.toNat < 128 := h1
      show (32 : UInt8).toNat < c.toNat
      have : (32 : UInt8).toNat = 32 := rfl
      omega
  have hdw : ∀ m : Bs, (∀ c ∈ m, blank c = false) → m.dropWhile blank = m := by
    intro m hm
    cases m with
    | nil => rfl
    | cons x t => rw [List.dropWhile_cons, hm x (by simp)]; rfl
  rw [clean_eq]
  unfold trimB
  rw [hdw _ hf, hdw _ (fun c hc => hf c (by simpa using hc)), List.reverse_reverse]
  unfold dropWs
  rw [List.filter_eq_self]
  intro c hc
  have := hf c hc
  simp [blank] at this
  have h9 : c ≠ 9 := by intro e; subst e; exact absurd this (by decide)
  have h10 : c ≠ 10 := by intro e; subst e; exact absurd this (by decide)
  have h13 : c ≠ 13 := by intro e; subst e; exact absurd this (by decide)
  simp [h9, h10, h13]
end Go.Proofs.YtfonfcbibdfplaaGreatDoor

/- ParseBlanks, ParseQueries, ParseBases, ParseSelf: their plain laws. No condition. -/
namespace Go.Proofs.YtfonfcbibdfplaaGreatDoor

/-! ### Blanks -/
theorem dropWhile_filter (l : Bs) : (dropWs l).dropWhile blank = dropWs (l.dropWhile blank) := by
  induction l with
  | nil => rfl
  | cons c t ih =>
    unfold dropWs at *
    cases hw : (!(c == 9 || c == 10 || c == 13)) with
    | true =>
      simp only [List.filter_cons, hw, if_true, List.dropWhile_cons]
      split
      · exact ih
      · simp only [List.filter_cons, hw, if_true]
    | false =>
      have hb : blank c = true := by
        simp at hw
        by_cases h9 : c = 9
        · subst h9; decide
        · by_cases h10 : c = 10
          · subst h10; decide
          · rw [hw h9 h10]; decide
      simp only [List.filter_cons, hw, Bool.false_eq_true, if_false, List.dropWhile_cons, hb, if_true]
      exact ih
theorem trim_drop (l : Bs) : dropWs (trimB l) = trimB (dropWs l) := by
  have hr : ∀ m : Bs, dropWs m.reverse = (dropWs m).reverse := fun m => by unfold dropWs; rw [List.filter_reverse]
  unfold trimB
  rw [hr, ← dropWhile_filter, hr, ← dropWhile_filter]
theorem dropBlank_all {l : Bs} (h : ∀ c ∈ l, blank c = true) (m : Bs) : (l ++ m).dropWhile blank = m.dropWhile blank := by
  induction l with
  | nil => rfl
  | cons c t ih => rw [List.cons_append, List.dropWhile_cons, h c (by simp)]; exact ih (fun x hx => h x (by simp [hx]))
theorem dropWhile_app (l : Bs) {m : Bs} (h : ∀ c ∈ m, blank c = true) : (l.dropWhile blank = [] ∧ (l ++ m).dropWhile blank = []) ∨ (l ++ m).dropWhile blank = l.dropWhile blank ++ m := by
  induction l with
  | nil => left; refine ⟨rfl, ?_⟩; rw [List.nil_append, ← List.append_nil m, dropBlank_all h]; rfl
  | cons c t ih =>
    rw [List.cons_append, List.dropWhile_cons, List.dropWhile_cons]
    split
    · exact ih
    · right; rfl
theorem trimB_ends (l : Bs) {a m : Bs} (ha : ∀ c ∈ a, blank c = true) (hm : ∀ c ∈ m, blank c = true) : trimB (a ++ (l ++ m)) = trimB l := by
  unfold trimB
  rw [dropBlank_all ha]
  rcases dropWhile_app l hm with ⟨h1, h2⟩ | h
  · rw [h1, h2]
  · rw [h, List.reverse_append, dropBlank_all (by simpa using hm)]
theorem clean_ends (s : Bs) : clean ([32, 0] ++ (s ++ [31, 32])) = clean s := by
  rw [clean_eq, clean_eq, fix_plain_app (by unfold plainB; decide), show s ++ [31, 32] = s ++ 31 :: [32] from rfl, fix_split (by decide), fix_plain (l := [32]) (by unfold plainB; decide),
    show fix s ++ 31 :: [32] = fix s ++ [31, 32] from rfl, trimB_ends _ (by decide) (by decide)]
theorem clean_tab {a b : Bs} {t : UInt8} (ha : plainB (a ++ b)) (ht : t = 9 ∨ t = 10 ∨ t = 13) : clean (a ++ t :: b) = clean (a ++ b) := by
  have hp : plainB (a ++ t :: b) := by
    intro c hc
    simp only [List.mem_append, List.mem_cons] at hc
    rcases hc with h | rfl | h
    · exact ha c (by simp [h])
    · rcases ht with rfl | rfl | rfl <;> decide
    · exact ha c (by simp [h])
  rw [clean_eq, clean_eq, fix_plain ha, fix_plain hp, trim_drop, trim_drop]
  congr 1
  unfold dropWs
  rw [List.filter_append, List.filter_append, List.filter_cons_of_neg]
  rcases ht with rfl | rfl | rfl <;> decide
/-- The parser sees the cleaned text alone. -/
theorem parse_clean {s t : Bs} (h : clean s = clean t) (hs : s.length ≤ 65536) (ht : t.length ≤ 65536) (base : Option Url) : parse s base = parse t base := by
  unfold parse
  rw [if_neg (show ¬ 65536 < s.length by omega), if_neg (show ¬ 65536 < t.length by omega)]
  unfold run hasScheme start
  rw [h]

/-! ### What the parser does not look at -/
def put (b : Option Url) (hq hf : Bool) (q f : Bs) (p : PS) : PS := { p with base := b, query := q, frag := f, u := { p.u with hasQ := hq, hasF := hf } }
variable {b : Option Url} {hq hf : Bool} {q f : Bs}
theorem put_slashes (p : PS) : slashes (put b hq hf q f p) = slashes p := rfl
theorem put_slash (p : PS) (s : Bs) (n : Nat) : slash (put b hq hf q f p) s n = slash p s n := rfl
theorem put_cut (p : PS) (s : Bs) : cutP (put b hq hf q f p) s = cutP p s := rfl
theorem put_walk (p : PS) (l : List Bs) (s : Bs) : walkP (put b hq hf q f p) l s = put b hq hf q f (walkP p l s) := rfl
theorem put_path (p : PS) (s : Bs) : pathP (put b hq hf q f p) s = put b hq hf q f (pathP p s) := by
  unfold pathP
  rw [put_slash]
  split
  · rfl
  · show (if (!s.isEmpty || special p.u.scheme) = true then walkP (put b hq hf q f p) [] s else put b hq hf q f p) = _
    split <;> rfl
theorem put_hostPut (p : PS) (s : Bs) (bad : Bool) : hostPut (put b hq hf q f p) s bad = put b hq hf q f (hostPut p s bad) := by
  unfold hostPut
  show (match hostP s (special p.u.scheme) with | some _ => _ | none => _) = _
  split <;> rename_i h <;> simp only [h] <;> rfl
theorem put_meet (p : PS) (s : Bs) : meet (put b hq hf q f p) s = put b hq hf q f (meet p s) := by
  unfold meet
  split
  · rename_i k _
    have e : portP (put b hq hf q f p) (s.drop (k + 1)) = portP p (s.drop (k + 1)) := rfl
    rw [e]
    exact put_hostPut { p with u := { p.u with port := (portP p (s.drop (k + 1))).1 } } (s.take k) (p.bad || !(portP p (s.drop (k + 1))).2 || k == 0)
  · exact put_hostPut _ _ _
theorem put_auth (p : PS) (s : Bs) : authP (put b hq hf q f p) s = put b hq hf q f (authP p s) := by
  unfold authP
  rw [put_cut]
  split
  · rename_i cred h _
    rw [← put_path]
    congr 1
    exact put_meet { p with u := { p.u with user := escape 5 (cut1 58 cred).1, pass := escape 5 (cut1 58 cred).2.1 }, bad := p.bad || h.isEmpty } h
  · rw [put_meet, put_path]
/-- What stays of a scheme, and so on. -/
def Sch (p q : PS) : Prop := q.u.scheme = p.u.scheme ∧ q.u.query = p.u.query ∧ q.base = p.base ∧ q.u.hasQ = p.u.hasQ ∧ q.u.hasF = p.u.hasF ∧ q.query = p.query ∧ q.frag = p.frag ∧ q.u.frag = p.u.frag
theorem Sch.refl {p : PS} : Sch p p := ⟨rfl, rfl, rfl, rfl, rfl, rfl, rfl, rfl⟩
theorem Sch.trans {p q r : PS} (h : Sch p q) (h2 : Sch q r) : Sch p r :=
  ⟨h2.1.trans h.1, h2.2.1.trans h.2.1, h2.2.2.1.trans h.2.2.1, h2.2.2.2.1.trans h.2.2.2.1, h2.2.2.2.2.1.trans h.2.2.2.2.1, h2.2.2.2.2.2.1.trans h.2.2.2.2.2.1, h2.2.2.2.2.2.2.1.trans h.2.2.2.2.2.2.1, h2.2.2.2.2.2.2.2.trans h.2.2.2.2.2.2.2⟩
theorem sch_path (p : PS) (s : Bs) : Sch p (pathP p s) := by unfold pathP; (repeat' split) <;> exact ⟨rfl, rfl, rfl, rfl, rfl, rfl, rfl, rfl⟩
theorem sch_put (p : PS) (s : Bs) (b : Bool) : Sch p (hostPut p s b) := by unfold hostPut; split <;> exact ⟨rfl, rfl, rfl, rfl, rfl, rfl, rfl, rfl⟩
theorem sch_meet (p : PS) (s : Bs) : Sch p (meet p s) := by
  unfold meet; split
  · rename_i k _
    obtain ⟨x, hx⟩ : ∃ x, x = portP p (s.drop (k + 1)) := ⟨_, rfl⟩
    rw [← hx]
    exact Sch.trans (q := { p with u := { p.u with port := x.1 } }) ⟨rfl, rfl, rfl, rfl, rfl, rfl, rfl, rfl⟩ (sch_put _ _ _)
  · exact sch_put _ _ _
theorem sch_auth (p : PS) (s : Bs) : Sch p (authP p s) := by
  unfold authP; split
  · rename_i cred h _
    exact Sch.trans (q := { p with u := { p.u with user := escape 5 (cut1 58 cred).1, pass := escape 5 (cut1 58 cred).2.1 }, bad := p.bad || h.isEmpty }) ⟨rfl, rfl, rfl, rfl, rfl, rfl, rfl, rfl⟩ ((sch_meet _ _).trans (sch_path _ _))
  · exact (sch_meet _ _).trans (sch_path _ _)
theorem sch_opaque (p : PS) : Sch p (opaqueP p) := by unfold opaqueP; split <;> exact ⟨rfl, rfl, rfl, rfl, rfl, rfl, rfl, rfl⟩
theorem sch_far (p : PS) (s : Bs) : Sch p (far p s) := by
  unfold far
  (repeat' split)
  · exact sch_path _ _
  · exact sch_path _ _
  · exact sch_path _ _
  · exact Sch.trans (p := p) (q := { p with u := { p.u with host := _ } }) ⟨rfl, rfl, rfl, rfl, rfl, rfl, rfl, rfl⟩ (sch_path _ _)
  · exact Sch.trans (p := p) (q := { p with bad := true, u := { p.u with host := [] } }) ⟨rfl, rfl, rfl, rfl, rfl, rfl, rfl, rfl⟩ (sch_path _ _)
theorem sch_file {p : PS} (hb : p.base = none) (hs : p.u.scheme = sFile) : Sch p (fileP p) := by
  unfold fileP near
  refine Sch.trans (q := { p with u := { p.u with scheme := sFile, hasHost := true } }) ⟨hs.symm, rfl, rfl, rfl, rfl, rfl, rfl, rfl⟩ ?_
  dsimp only
  rw [hb]
  (repeat' split)
  all_goals first
    | exact sch_far _ _
    | exact ⟨rfl, rfl, rfl, rfl, rfl, rfl, rfl, rfl⟩
    | (rename_i h; cases h)
theorem sch_schemed {p : PS} (hb : p.base = none) : Sch p (schemed p) := by
  unfold schemed
  have hbd : ∀ s, based p s = false := fun s => by unfold based; rw [hb]
  simp only [hbd, Bool.false_eq_true, if_false, Bool.false_and]
  (repeat' split)
  · rename_i h
    refine Sch.trans (q := { p with base := none }) ⟨rfl, rfl, hb.symm, rfl, rfl, rfl, rfl, rfl⟩ (sch_file rfl (by simpa using h))
  · exact sch_auth _ _
  · exact sch_auth _ _
  · exact sch_path _ _
  · exact sch_opaque _

/-! ### Bases -/
def setB (b : Option Url) (p : PS) : PS := { p with base := b }
theorem put_schemed {p : PS} (hn : special p.u.scheme = false) : schemed (setB b p) = setB b (schemed p) := by
  unfold setB
  have hf : (p.u.scheme == sFile) = false := by
    cases h : p.u.scheme == sFile with
    | false => rfl
    | true => unfold special at hn; rw [h] at hn; simp at hn
  have e : ({ p with base := b } : PS) = put b p.u.hasQ p.u.hasF p.query p.frag p := rfl
  have e2 : ∀ r : PS, Sch p r → ({ r with base := b } : PS) = put b p.u.hasQ p.u.hasF p.query p.frag r := by
    intro r ⟨_, _, _, h1, h2, h3, h4, _⟩
    unfold put; rw [← h1, ← h2, ← h3, ← h4]
  unfold schemed
  simp only [hf, hn, Bool.false_eq_true, if_false]
  split
  · rw [e2 _ (sch_auth _ _), ← put_auth]; rfl
  · split
    · rw [e2 _ (sch_path _ _), ← put_path]; rfl
    · unfold opaqueP; dsimp only; split <;> rfl
theorem finish_base (p : PS) : (finish (setB b p)).u = (finish p).u := rfl
theorem bad_base (p : PS) : (setB b p).bad = p.bad := rfl
theorem start_setB (s : Bs) : start s b = setB b (start s none) := by
  unfold start setB; dsimp only; split <;> rfl
/-- Without a base a URL has a scheme. -/
theorem parse_ok {s : Bs} (h : (parse s none).2 = 0) : s.length ≤ 65536 ∧ hasScheme s = true ∧ (schemed (start s none)).bad = false ∧ (parse s none).1 = (finish (schemed (start s none))).u := by
  unfold parse at h ⊢
  by_cases hl : 65536 < s.length
  · rw [if_pos hl] at h; simp at h
  · rw [if_neg hl] at h ⊢
    cases hs : hasScheme s with
    | false =>
      have : (run s none).bad = true := by
        unfold run; rw [hs]
        have : (start s none).base = none := by unfold start; dsimp only; split <;> rfl
        show (plain (start s none)).bad = true
        unfold plain; rw [this]
      rw [if_pos this] at h; simp at h
    | true =>
      have e : run s none = schemed (start s none) := by unfold run; rw [hs]; rfl
      rw [e] at h ⊢
      cases hb : (schemed (start s none)).bad with
      | true => rw [hb] at h; simp at h
      | false => exact ⟨by omega, rfl, rfl, rfl⟩
theorem start_bn (s : Bs) : (start s none).base = none := by unfold start; dsimp only; split <;> rfl
theorem finish_scheme (p : PS) : (finish p).u.scheme = p.u.scheme := rfl
theorem run_some {s : Bs} {b : Option Url} (h : hasScheme s = true) : run s b = schemed (start s b) := by unfold run; rw [h, if_pos rfl]
theorem parse_bases {s : Bs} (b : Url) (h : (parse s none).2 = 0) (hn : special (parse s none).1.scheme = false) : parse s (some b) = parse s none := by
  obtain ⟨hl, hs, hb, hu⟩ := parse_ok h
  have hsc : (parse s none).1.scheme = (start s none).u.scheme := by rw [hu, finish_scheme]; exact (sch_schemed (start_bn s)).1
  rw [hsc] at hn
  have e2 : run s (some b) = setB (some b) (schemed (start s none)) := by
    rw [run_some hs, start_setB]; exact put_schemed hn
  have hl' : ¬ 65536 < s.length := by omega
  unfold parse
  rw [e2, run_some hs, if_neg hl', if_neg hl', finish_base, bad_base]

end Go.Proofs.YtfonfcbibdfplaaGreatDoor

/- ParseQueries, ParseSelf: their plain laws. No condition. -/
namespace Go.Proofs.YtfonfcbibdfplaaGreatDoor

variable {b : Option Url} {hq hf : Bool} {q f : Bs}
theorem takeWhile_all {p : UInt8 → Bool} : ∀ {l : Bs}, (∀ x ∈ l, p x = true) → l.takeWhile p = l
  | [], _ => rfl
  | c :: t, h => by rw [List.takeWhile_cons, h c (by simp), if_pos rfl, takeWhile_all (l := t) (fun x hx => h x (by simp [hx]))]
theorem cut1_miss {c : UInt8} {l : Bs} (h : c ∉ l) : cut1 c l = (l, [], false) := by
  have h1 : l.takeWhile (· != c) = l := by
    refine takeWhile_all fun x hx => ?_
    have : x ≠ c := fun e => h (e ▸ hx)
    simp [this]
  have h2 : l.dropWhile (· != c) = [] := by
    have := List.takeWhile_append_dropWhile (p := (· != c)) (l := l)
    rw [h1] at this
    simpa using this
  unfold cut1
  rw [h1, h2]
  simp [h]
theorem cut1_hit {c : UInt8} {l : Bs} (h : c ∉ l) (r : Bs) : cut1 c (l ++ c :: r) = (l, r, true) := by
  have hx : ∀ x ∈ l, (x != c) = true := by
    intro x hx
    have : x ≠ c := fun e => h (e ▸ hx)
    simp [this]
  unfold cut1
  rw [List.takeWhile_append_of_pos hx, List.dropWhile_append_of_pos hx]
  simp
theorem put_far (p : PS) (s : Bs) : far (put b hq hf q f p) s = put b hq hf q f (far p s) := by
  unfold far
  rw [put_cut]
  split
  · exact put_path _ _
  · split
    · exact put_path _ _
    · split
      · rename_i h _
        rw [← put_path]
        congr 1
        split <;> rfl
      · exact put_path { p with bad := true, u := { p.u with host := [] } } (cutP p s).2
theorem put_file {p : PS} (hb : p.base = none) : fileP (put none hq hf q f p) = put none hq hf q f (fileP p) := by
  unfold fileP near
  dsimp only
  rw [hb]
  show (if slash (put none hq hf q f { p with u := { p.u with scheme := sFile, hasHost := true } }) p.rest 2 = true then far (put none hq hf q f { p with u := { p.u with scheme := sFile, hasHost := true } }) (p.rest.drop 2)
    else if slash (put none hq hf q f { p with u := { p.u with scheme := sFile, hasHost := true } }) p.rest 1 = true then walkP (put none hq hf q f { p with u := { p.u with scheme := sFile, hasHost := true } }) [] (p.rest.drop 1)
    else walkP (put none hq hf q f { p with u := { p.u with scheme := sFile, hasHost := true } }) [] p.rest) = _
  rw [put_slash, put_slash]
  have e : ({ p with u := { p.u with scheme := sFile, hasHost := true } } : PS) = { u := { p.u with scheme := sFile, hasHost := true }, base := none, rest := p.rest, query := p.query, frag := p.frag, bad := p.bad } := by rw [← hb]
  rw [e]
  split
  · exact put_far _ _
  · split <;> rfl
theorem put_schemed2 {p : PS} (hb : p.base = none) (hr : p.rest.getLast? ≠ some 32) : schemed (put none hq hf q f p) = put none hq hf q f (schemed p) := by
  have hbd : ∀ s, based p s = false := fun s => by unfold based; rw [hb]
  have hbd2 : ∀ s, based (put none hq hf q f p) s = false := fun s => rfl
  unfold schemed
  simp only [hbd, hbd2, Bool.false_eq_true, if_false, Bool.false_and]
  have e0 : ({ p with base := none } : PS) = p := by rw [← hb]
  have e1 : (put none hq hf q f p).u.scheme = p.u.scheme := rfl
  have e2 : (put none hq hf q f p).rest = p.rest := rfl
  rw [e1, e2, e0]
  split
  · exact put_file hb
  · split
    · exact put_auth _ _
    · split
      · exact put_auth _ _
      · split
        · exact put_path _ _
        · unfold opaqueP
          have h32 : (p.rest.getLast? == some 32) = false := by simpa using hr
          rw [e2, h32, Bool.and_false, Bool.and_false]
          rfl
theorem escape_letters {set : Nat} (hs : set ≤ 3) : ∀ {q : Bs}, (∀ c ∈ q, 97 ≤ c ∧ c ≤ 122) → escape set q = q
  | [], _ => rfl
  | c :: t, h => by
    have ih := escape_letters hs (q := t) (fun x hx => h x (by simp [hx]))
    have hc := h c (by simp)
    have hin : inSet set c = false := by
      have h1 : (97 : UInt8).toNat ≤ c.toNat := hc.1
      have h2 : c.toNat ≤ (122 : UInt8).toNat := hc.2
      have e : ∀ n : Nat, n < 256 → 97 ≤ n → n ≤ 122 → ∀ set, set ≤ 3 → inSet set (UInt8.ofNat n) = false := by decide +kernel
      have := e c.toNat c.toNat_lt h1 h2 set hs
      rwa [UInt8.ofNat_toNat] at this
    show (if inSet set c = true then esc1 c else [c]) ++ escape set t = _
    rw [hin, ih]; rfl
theorem schemeP_mem {s n r : Bs} (h : schemeP s = some (n, r)) {c : UInt8} (hc : c ∈ r) : c ∈ s := by
  simp only [schemeP, Option.ite_none_right_eq_some, Option.some.injEq, Prod.mk.injEq] at h
  obtain ⟨_, _, rfl⟩ := h
  exact (List.dropWhile_suffix (· != (58 : UInt8))).subset (List.mem_of_mem_drop hc)
/-- What begins, of a text without ? and #. -/
theorem start_of {s x : Bs} (hx : clean s = x) (h1 : (35 : UInt8) ∉ x) (h2 : (63 : UInt8) ∉ x) : start s none = (match schemeP x with
    | some (n, r) => ⟨{ Url.zero with port := -1, scheme := n }, none, r, [], [], false⟩
    | none => ⟨{ Url.zero with port := -1 }, none, x, [], [], false⟩) := by
  unfold start
  rw [hx]
  dsimp only
  rw [cut1_miss h1]
  dsimp only
  rw [cut1_miss h2]
  split <;> rename_i h <;> simp only [h] <;> rfl
theorem start_q {s x q : Bs} (hx : clean s = x ++ 63 :: q) (h1 : (35 : UInt8) ∉ x ++ 63 :: q) (h2 : (63 : UInt8) ∉ x) : start s none = (match schemeP x with
    | some (n, r) => ⟨{ Url.zero with port := -1, scheme := n, hasQ := true }, none, r, q, [], false⟩
    | none => ⟨{ Url.zero with port := -1, hasQ := true }, none, x, q, [], false⟩) := by
  unfold start
  rw [hx]
  dsimp only
  rw [cut1_miss h1]
  dsimp only
  rw [cut1_hit h2]
  split <;> rename_i h <;> simp only [h] <;> rfl
theorem parse_query {s q : Bs} (hs : ∀ c ∈ s, 32 < c ∧ c ≠ 63 ∧ c ≠ 35) (hq : ∀ c ∈ q, 97 ≤ c ∧ c ≤ 122) (hl : s.length + 1 + q.length ≤ 65536) :
    (parse (s ++ 63 :: q) none).2 = (parse s none).2 ∧ ((parse s none).2 = 0 → (parse (s ++ 63 :: q) none).1 = { (parse s none).1 with hasQ := true, query := q }) := by
  have hqb : ∀ c ∈ q, 32 < c ∧ c ≠ 35 ∧ c < 128 := by
    intro c hc
    have h1 : (97 : UInt8).toNat ≤ c.toNat := (hq c hc).1
    have h2 : c.toNat ≤ (122 : UInt8).toNat := (hq c hc).2
    have e : ∀ n : Nat, n < 256 → 97 ≤ n → n ≤ 122 → 32 < UInt8.ofNat n ∧ UInt8.ofNat n ≠ 35 ∧ UInt8.ofNat n < 128 := by decide +kernel
    have := e c.toNat c.toNat_lt h1 h2
    rwa [UInt8.ofNat_toNat] at this
  have c1 : clean s = fix s := clean_noblank (fun c hc => (hs c hc).1)
  have c2 : clean (s ++ 63 :: q) = fix s ++ 63 :: q := by
    rw [clean_noblank, fix_split (by decide), fix_plain (fun c hc => (hqb c hc).2.2)]
    intro c hc
    simp only [List.mem_append, List.mem_cons] at hc
    rcases hc with h | rfl | h
    · exact (hs c h).1
    · decide
    · exact (hqb c h).1
  have n35 : (35 : UInt8) ∉ fix s := fun h => (hs 35 (fix_mem' (by decide) h)).2.2 rfl
  have n63 : (63 : UInt8) ∉ fix s := fun h => (hs 63 (fix_mem' (by decide) h)).2.1 rfl
  have n35' : (35 : UInt8) ∉ fix s ++ 63 :: q := by
    intro h
    simp only [List.mem_append, List.mem_cons] at h
    rcases h with h | h | h
    · exact n35 h
    · exact absurd h (by decide)
    · exact (hqb 35 h).2.1 rfl
  have s1 := start_of c1 n35 n63
  have s2 := start_q c2 n35' n63
  have hsc : ∀ b : Bool, hasScheme s = (schemeP (fix s)).isSome := fun _ => by unfold hasScheme; rw [c1, cut1_miss n35, cut1_miss n63]
  have hsc2 : hasScheme (s ++ 63 :: q) = (schemeP (fix s)).isSome := by unfold hasScheme; rw [c2, cut1_miss n35', cut1_hit n63]
  have l1 : ¬ 65536 < s.length := by omega
  have l2 : ¬ 65536 < (s ++ 63 :: q).length := by rw [List.length_append, List.length_cons]; omega
  unfold parse
  rw [if_neg l1, if_neg l2]
  cases hsp : schemeP (fix s) with
  | none =>
    have r1 : (run s none).bad = true := by
      unfold run; rw [hsc true, hsp, s1, hsp]; rfl
    have r2 : (run (s ++ 63 :: q) none).bad = true := by
      unfold run; rw [hsc2, hsp, s2, hsp]; rfl
    rw [if_pos r1, if_pos r2]
    exact ⟨rfl, fun h => by simp at h⟩
  | some nr =>
    obtain ⟨n, r⟩ := nr
    have h1 : hasScheme s = true := by rw [hsc true, hsp]; rfl
    have h2 : hasScheme (s ++ 63 :: q) = true := by rw [hsc2, hsp]; rfl
    rw [run_some h1, run_some h2]
    rw [hsp] at s1 s2
    dsimp only at s1 s2
    obtain ⟨P, hP⟩ : ∃ P : PS, P = ⟨{ Url.zero with port := -1, scheme := n }, none, r, [], [], false⟩ := ⟨_, rfl⟩
    have s1' : start s none = P := by rw [s1, hP]
    have s2' : start (s ++ 63 :: q) none = put none true false q [] P := by rw [s2, hP]; rfl
    have hr : P.rest.getLast? ≠ some 32 := by
      rw [hP]
      intro h
      have hm : (32 : UInt8) ∈ r := List.mem_of_getLast? h
      have := (hs 32 (fix_mem' (by decide) (schemeP_mem hsp hm))).1
      exact absurd this (by decide)
    have hb : P.base = none := by rw [hP]
    obtain ⟨k1, k2, k3, k4, k5, k6, k7, k8⟩ := sch_schemed hb
    have z : P.u.query = [] ∧ P.u.hasF = false ∧ P.query = [] ∧ P.frag = [] := by rw [hP]; exact ⟨rfl, rfl, rfl, rfl⟩
    rw [s1', s2', put_schemed2 hb hr]
    rw [z.1] at k2
    rw [z.2.1] at k5
    rw [z.2.2.1] at k6
    rw [z.2.2.2] at k7
    generalize schemed P = R at *
    have hbad : (put none true false q [] R).bad = R.bad := rfl
    rw [hbad]
    cases R.bad with
    | true => exact ⟨rfl, fun h => by simp at h⟩
    | false =>
      refine ⟨rfl, fun _ => ?_⟩
      show (finish (put none true false q [] R)).u = { (finish R).u with hasQ := true, query := q }
      unfold finish put
      dsimp only
      rw [k2, k5, k7]
      congr 1
      cases q with
      | nil => rfl
      | cons c t =>
        rw [escape_letters (by split <;> omega) hq]; rfl

/-! ### Beside itself -/
/-- What a parsed URL keeps to: what is opaque has no host, and is no file; a file has nobody and no port. -/
def Good (u : Url) : Prop := (u.opq = true → u.hasHost = false ∧ u.scheme ≠ sFile) ∧ (u.scheme = sFile → u.hasHost = true ∧ u.user = [] ∧ u.pass = [] ∧ u.port = -1)
def Plainly (p q : PS) : Prop := q.u.scheme = p.u.scheme ∧ q.u.opq = p.u.opq ∧ q.u.hasHost = p.u.hasHost ∧ q.u.user = p.u.user ∧ q.u.pass = p.u.pass ∧ q.u.port = p.u.port
theorem Plainly.trans {p q r : PS} (h : Plainly p q) (h2 : Plainly q r) : Plainly p r :=
  ⟨h2.1.trans h.1, h2.2.1.trans h.2.1, h2.2.2.1.trans h.2.2.1, h2.2.2.2.1.trans h.2.2.2.1, h2.2.2.2.2.1.trans h.2.2.2.2.1, h2.2.2.2.2.2.trans h.2.2.2.2.2⟩
theorem pl_path (p : PS) (s : Bs) : Plainly p (pathP p s) := by unfold pathP; (repeat' split) <;> exact ⟨rfl, rfl, rfl, rfl, rfl, rfl⟩
theorem pl_far (p : PS) (s : Bs) : Plainly p (far p s) := by
  unfold far
  (repeat' split)
  · exact pl_path _ _
  · exact pl_path _ _
  · exact pl_path _ _
  · exact Plainly.trans (p := p) (q := { p with u := { p.u with host := _ } }) ⟨rfl, rfl, rfl, rfl, rfl, rfl⟩ (pl_path _ _)
  · exact Plainly.trans (p := p) (q := { p with bad := true, u := { p.u with host := [] } }) ⟨rfl, rfl, rfl, rfl, rfl, rfl⟩ (pl_path _ _)
theorem pl_file {p : PS} (hb : p.base = none) : Plainly { p with u := { p.u with scheme := sFile, hasHost := true } } (fileP p) := by
  unfold fileP near
  dsimp only
  rw [hb]
  (repeat' split)
  all_goals first
    | exact pl_far _ _
    | exact ⟨rfl, rfl, rfl, rfl, rfl, rfl⟩
    | (rename_i h; cases h)
theorem opq_put (p : PS) (s : Bs) (b : Bool) : (hostPut p s b).u.opq = p.u.opq := by unfold hostPut; split <;> rfl
theorem opq_meet (p : PS) (s : Bs) : (meet p s).u.opq = p.u.opq := by
  unfold meet; split
  · rename_i k _
    obtain ⟨x, hx⟩ : ∃ x, x = portP p (s.drop (k + 1)) := ⟨_, rfl⟩
    rw [← hx]
    exact opq_put { p with u := { p.u with port := x.1 } } _ _
  · exact opq_put _ _ _
theorem opq_auth (p : PS) (s : Bs) : (authP p s).u.opq = p.u.opq := by
  unfold authP; split
  · rename_i cred h _
    rw [(pl_path _ _).2.1]
    exact opq_meet { p with u := { p.u with user := escape 5 (cut1 58 cred).1, pass := escape 5 (cut1 58 cred).2.1 }, bad := p.bad || h.isEmpty } h
  · rw [(pl_path _ _).2.1, opq_meet]
theorem special_file : special sFile = true := by decide
theorem good_schemed {p : PS} (hb : p.base = none) (hu : p.u.opq = false) (hh : p.u.hasHost = false) (h1 : p.u.user = []) (h2 : p.u.pass = []) (h3 : p.u.port = -1) : Good (schemed p).u := by
  have hs := (sch_schemed hb).1
  have hbd : ∀ s, based p s = false := fun s => by unfold based; rw [hb]
  have e0 : ({ p with base := none } : PS) = p := by rw [← hb]
  unfold Good
  rw [hs]
  clear hs
  unfold schemed
  simp only [hbd, Bool.false_eq_true, if_false, Bool.false_and, e0]
  have nf : special p.u.scheme = false → p.u.scheme ≠ sFile := fun h e => by rw [e, special_file] at h; cases h
  by_cases hf : p.u.scheme = sFile
  · have hf' : (p.u.scheme == sFile) = true := by simp [hf]
    rw [hf', if_pos rfl]
    obtain ⟨k1, k2, k3, k4, k5, k6⟩ := pl_file hb
    rw [k2, k3, k4, k5, k6]
    exact ⟨fun h => by simp [hu] at h, fun _ => ⟨rfl, h1, h2, h3⟩⟩
  · have hf' : (p.u.scheme == sFile) = false := by simpa using hf
    rw [hf']
    simp only [Bool.false_eq_true, if_false]
    (repeat' split)
    · rw [opq_auth]; exact ⟨fun h => by simp [hu] at h, fun h => absurd h hf⟩
    · rw [opq_auth]; exact ⟨fun h => by simp [hu] at h, fun h => absurd h hf⟩
    · rw [(pl_path _ _).2.1]; exact ⟨fun h => by simp [hu] at h, fun h => absurd h hf⟩
    · refine ⟨fun _ => ⟨?_, hf⟩, fun h => absurd h hf⟩
      unfold opaqueP; split <;> exact hh
theorem start_facts (s : Bs) (b : Option Url) : (start s b).u.opq = false ∧ (start s b).u.hasHost = false ∧ (start s b).u.user = [] ∧ (start s b).u.pass = [] ∧ (start s b).u.port = -1 ∧ (start s b).base = b := by
  unfold start; dsimp only; split <;> exact ⟨rfl, rfl, rfl, rfl, rfl, rfl⟩
theorem good_finish {p : PS} (h : Good p.u) : Good (finish p).u := h
theorem parse_good {s : Bs} (h : (parse s none).2 = 0) : Good (parse s none).1 := by
  obtain ⟨_, _, _, hu⟩ := parse_ok h
  obtain ⟨f1, f2, f3, f4, f5, f6⟩ := start_facts s none
  rw [hu]
  exact good_finish (good_schemed f6 f1 f2 f3 f4 f5)

/-- What begins, of a text of nothing (or of a fragment alone). -/
def selfS (b : Url) (hf : Bool) (f : Bs) : PS := ⟨{ Url.zero with port := -1, hasF := hf }, some b, [], [], f, false⟩
theorem slash_nil (p : PS) (n : Nat) : slash p [] (n + 1) = false := by simp [slash]
theorem self_plain {b : Url} (hf : Bool) (f : Bs) (hg : Good b) (ho : b.opq = false) :
    (plain (selfS b hf f)).bad = false ∧ bare (finish (plain (selfS b hf f))).u = bare b ∧ (finish (plain (selfS b hf f))).u.hasF = hf ∧ (finish (plain (selfS b hf f))).u.frag = escape 1 f := by
  unfold plain selfS
  dsimp only
  rw [ho]
  simp only [Bool.false_eq_true, if_false]
  by_cases hs : b.scheme = sFile
  · have hs' : (b.scheme == sFile) = true := by simp [hs]
    obtain ⟨g1, g2, g3, g4⟩ := hg.2 hs
    rw [hs', if_pos rfl]
    unfold fileP
    dsimp only
    rw [slash_nil _ 1, slash_nil _ 0]
    simp only [Bool.false_eq_true, if_false, List.isEmpty_nil, if_true]
    unfold keep finish
    dsimp only
    simp only [List.isEmpty_nil, if_true]
    refine ⟨trivial, ?_, trivial, trivial⟩
    unfold bare authU pathU
    dsimp only
    rw [hs, g1, g2, g3, g4, ho]
    rfl
  · have hs' : (b.scheme == sFile) = false := by simpa using hs
    rw [hs']
    simp only [Bool.false_eq_true, if_false]
    unfold relative
    dsimp only
    rw [slash_nil _ 1, slash_nil _ 0]
    simp only [Bool.false_eq_true, if_false, List.isEmpty_nil, if_true]
    unfold keep whom finish baseOf
    dsimp only
    simp only [List.isEmpty_nil, if_true]
    refine ⟨trivial, ?_, trivial, trivial⟩
    unfold bare authU pathU
    dsimp only
    rw [ho]
    rfl
theorem self_opq {b : Url} (hf : Bool) (f : Bs) (hg : Good b) (ho : b.opq = true) :
    (plain (selfS b hf f)).bad = !hf ∧ bare (finish (plain (selfS b hf f))).u = bare b ∧ (finish (plain (selfS b hf f))).u.hasF = hf ∧ (finish (plain (selfS b hf f))).u.frag = escape 1 f := by
  have hh := (hg.1 ho).1
  unfold plain selfS
  dsimp only
  rw [ho, if_pos rfl]
  unfold finish
  dsimp only
  simp only [List.isEmpty_nil, if_true]
  refine ⟨by simp [Url.zero], ?_, trivial, trivial⟩
  unfold bare authU pathU
  dsimp only
  rw [ho, hh]
  rfl
theorem start_self_nil (b : Url) : start [] (some b) = selfS b false [] := rfl
theorem start_self {f : Bs} (hq : ∀ c ∈ f, 97 ≤ c ∧ c ≤ 122) (b : Url) : start (35 :: f) (some b) = selfS b true f ∧ hasScheme (35 :: f) = false := by
  have hqb : ∀ c ∈ f, 32 < c ∧ c < 128 := by
    intro c hc
    have h1 : (97 : UInt8).toNat ≤ c.toNat := (hq c hc).1
    have h2 : c.toNat ≤ (122 : UInt8).toNat := (hq c hc).2
    have e : ∀ n : Nat, n < 256 → 97 ≤ n → n ≤ 122 → 32 < UInt8.ofNat n ∧ UInt8.ofNat n < 128 := by decide +kernel
    have := e c.toNat c.toNat_lt h1 h2
    rwa [UInt8.ofNat_toNat] at this
  have c1 : clean (35 :: f) = 35 :: f := by
    rw [clean_noblank, fix_plain]
    · intro c hc
      rcases List.mem_cons.1 hc with rfl | h
      · decide
      · exact (hqb c h).2
    · intro c hc
      rcases List.mem_cons.1 hc with rfl | h
      · decide
      · exact (hqb c h).1
  have c2 : cut1 35 (35 :: f) = ([], f, true) := cut1_hit (l := []) (by simp) f
  constructor
  · unfold start
    rw [c1]
    dsimp only
    rw [c2]
    rfl
  · unfold hasScheme
    rw [c1, c2]
    rfl
theorem parse_self_nil {b : Url} (hg : Good b) : (b.opq = true → parse [] (some b) = (Url.zero, 2)) ∧ (b.opq = false → (parse [] (some b)).2 = 0 ∧ printU (parse [] (some b)).1 = bare b) := by
  have e : run [] (some b) = plain (selfS b false []) := rfl
  have e2 : parse [] (some b) = if (plain (selfS b false [])).bad then (Url.zero, 2) else ((finish (plain (selfS b false []))).u, 0) := rfl
  constructor
  · intro ho
    rw [e2, (self_opq false [] hg ho).1]; rfl
  · intro ho
    obtain ⟨h1, h2, h3, _⟩ := self_plain false [] hg ho
    rw [e2, h1]
    refine ⟨rfl, ?_⟩
    show printU (finish (plain (selfS b false []))).u = _
    unfold printU
    rw [h3, h2]
    rfl
theorem parse_self_frag {b : Url} (hg : Good b) {f : Bs} (hq : ∀ c ∈ f, 97 ≤ c ∧ c ≤ 122) (hl : f.length < 65536) :
    (parse (35 :: f) (some b)).2 = 0 ∧ printU (parse (35 :: f) (some b)).1 = bare b ++ 35 :: f := by
  obtain ⟨s1, s2⟩ := start_self hq b
  have e2 : parse (35 :: f) (some b) = if (plain (selfS b true f)).bad then (Url.zero, 2) else ((finish (plain (selfS b true f))).u, 0) := by
    unfold parse run
    rw [s2, s1, if_neg (show ¬ 65536 < (35 :: f : Bs).length by rw [List.length_cons]; omega)]
    rfl
  have key : (plain (selfS b true f)).bad = false ∧ bare (finish (plain (selfS b true f))).u = bare b ∧ (finish (plain (selfS b true f))).u.hasF = true ∧ (finish (plain (selfS b true f))).u.frag = escape 1 f := by
    cases ho : b.opq with
    | true => exact self_opq true f hg ho
    | false => exact self_plain true f hg ho
  obtain ⟨h1, h2, h3, h4⟩ := key
  rw [e2, h1]
  refine ⟨rfl, ?_⟩
  show printU (finish (plain (selfS b true f))).u = _
  unfold printU
  rw [h3, h2, h4, escape_letters (by omega) hq]
  rfl
end Go.Proofs.YtfonfcbibdfplaaGreatDoor

