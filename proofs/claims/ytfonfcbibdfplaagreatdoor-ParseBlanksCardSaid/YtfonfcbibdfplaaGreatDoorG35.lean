import Derived.Test.YtfonfcbibdfplaaGreatDoorRows
import Derived.HandedShaped
import Derived.WalkKit
import Derived.ProofKit
import Derived.OpenShut
import Derived.LaidMore
import Derived.Lay
import Derived.SevenTiedAt
import Derived.Stop.Joined
import Derived.Lib.LaidU8T
import Derived.Shelf.Vars
import Derived.LaidHandle
import Derived.ChangeMaps5
import Derived.Carry
import Derived.Test.YtfonfcbibdfplaaGreatDoorG02
import Derived.Test.YtfonfcbibdfplaaGreatDoorG09
import Derived.Test.YtfonfcbibdfplaaGreatDoorG03
import Derived.Test.YtfonfcbibdfplaaGreatDoorG32
/- The wrap of a row that lists laid variables, the world's shape kept. No condition. -/
namespace Go.Proofs.YtfonfcbibdfplaaGreatDoor
open Go
variable {H : Type} {enc : TypeId × Value → H}

theorem wrap_laid {a : Assume} {C : Checked} {os : Os} {f : FuncId} {fn : Func} {s : ChangeSpec} {conds : List PathCond} {apart fresh handsOn again : Bool} {X : World → Array Value → Prop}
    (hX : ∀ (w w' : World) (args : Array Value), w.heap = w'.heap → X w args → X w' args)
    (own : ownKnob C.prog.godebug = none) (started : os.Started) (noInit : C.prog.inits.idxOf? f = none) (hfn : C.prog.funcs[f]? = some fn)
    (witness : ∃ (w : World) (tape : Tape) (i : Input), w.os = os ∧ (w.forCall tape i).Shaped C.prog ∧ i.vars = [] ∧ Input.okWide C.prog (w.forCall tape i) .any w.heap.size f i ∧
      ((s.pre enc C.prog fn conds apart (w.forCall tape i).memory i.args ∧ X (w.forCall tape i).memory i.args) ∧ sizedMet enc C.prog fn (OpenSpec.ofChange s) apart (w.forCall tape i).memory i.args) ∧ a.holds C.prog (lone (Frame.enter C.prog f i.args .normal) [] (w.forCall tape i)))
    (contract : ∀ (W : World) (base : Nat) (args : Array Value) (ds gs : List (DataW H)) (before : List MemPlace),
      (∀ (j : Nat) t v, fn.params[j]? = some t → args[j]? = some v → Value.okWide C.prog W .any base t v) →
      DataW.Whole enc C.prog fn.params.toList s.vars apart W args.toList ds gs before →
      conds.all (PathCond.test C.prog ⟨fn.params.toList, ds, s.plain.varTypes C.prog, gs⟩) = true →
      (DataW.weightsEach C.prog (fn.params.toList ++ s.plain.varTypes C.prog) (ds ++ gs)).all (· ≤ reachBytes) = true → X W args →
      W.ShapedOpen C.prog →
      a.holds C.prog (lone (Frame.enter C.prog f args .normal) [] W) →
      Calls C.prog f args W fun e W' => ∃ v, e = .returned v ∧ s.post enc C.prog fn apart fresh handsOn again W args v W') :
    ReturnsInHanded a C os f .any (fun w args => (s.pre enc C.prog fn conds apart w args ∧ X w args) ∧ sizedMet enc C.prog fn (OpenSpec.ofChange s) apart w args) (s.post enc C.prog fn apart fresh handsOn again) := by
  refine returnsInHanded_of_calls own started noInit witness ?_
  intro w tape i _ hsh _ hok hpre hholds
  obtain ⟨_, _, _, fn', hfn', _, _, _, _, hval⟩ := hok
  have e : fn' = fn := Option.some.inj (hfn'.symm.trans hfn)
  subst e
  obtain ⟨⟨⟨ds, gs, before, hw, hc⟩, hx⟩, hz⟩ := hpre
  have hw' := DataW.Whole.of_heap (w' := w.forCall tape i) (by rfl) hw
  refine (contract (w.forCall tape i) w.heap.size i.args ds gs before hval hw' hc (hz.weights hw) (hX _ _ _ (by rfl) hx) hsh hholds).mono fun e W' ⟨v, he, hp⟩ => ?_
  subst he
  exact ChangeSpec.post_blind hp
end Go.Proofs.YtfonfcbibdfplaaGreatDoor

/- The globals' facts out of a row's laid variables and the world's shape. No condition. -/
namespace Go.Proofs.YtfonfcbibdfplaaGreatDoor
open Go.Lib

/-- A table that is listed, wherever it stands. -/
theorem tab_of_reads {P : Program} {W : World} {name : String} {k : IntKind} {zs : List Int} {g : Nat} {t e : TypeId} {n : Nat}
    (hg : P.globalNamed name = some g) (hty : (P.globals[g]?).map (·.type) = some t) (ht : P.underlying t = some (.array n e)) (he : P.underlying e = some (.int k)) (hce : P.cellsOf e = 1) (hct : P.cellsOf t = n)
    (h : VarReads P W name (tabData k zs)) : TabIs P W name k zs := by
  obtain ⟨g', t', cs, fuel, p, hg', ht', hvar, hd⟩ := h
  obtain rfl := Option.some.inj (hg.symm.trans hg')
  obtain rfl := Option.some.inj (hty.symm.trans ht')
  unfold TabIs
  rw [hvar, ← cells_of_tab ht he hce hct hd]

/-- A variable that is listed as a value in an interface holds one. -/
theorem err_of_reads {P : Program} {W : World} {name : String} {un : String} {x : DataW Unit} {g : Nat} {t : TypeId} {ms : Array (String × TypeId)}
    (hg : P.globalNamed name = some g) (hty : (P.globals[g]?).map (·.type) = some t) (ht : P.underlying t = some (.interface ms)) (h : VarReads P W name (.iface un x)) : ErrCell W g := by
  obtain ⟨g', t', cs, fuel, p, hg', ht', hvar, hd⟩ := h
  obtain rfl := Option.some.inj (hg.symm.trans hg')
  obtain rfl := Option.some.inj (hty.symm.trans ht')
  have hcell := World.var?_cell hg hvar 0
  cases fuel with
  | zero => simp [DataW.trod] at hd
  | succ fuel =>
    match hc : cs.toList, hd with
    | [], hd => simp [DataW.trod, ht] at hd
    | [v], hd =>
      have h0 : cs[0]? = some v := by rw [← Array.getElem?_toList, hc]; rfl
      refine ⟨v, by rw [hcell, h0], ?_⟩
      cases v with
      | nilIface => exact .inl rfl
      | iface u y => exact .inr ⟨_, _, rfl⟩
      | _ => simp [DataW.trod, ht] at hd
    | _ :: _ :: _, hd => simp [DataW.trod, ht] at hd

def uren : Go.Shelf.Ren := ⟨fun n => n, fun | 5 => 5 | 119 => 153 | 138 => 181 | 139 => 182 | n => n, fun | 3 => 1 | 4 => 2 | n => n⟩
set_option maxRecDepth 100000 in
theorem utypes : U8Types Tryz.prog uren := ⟨Tryz.underlying5, Tryz.underlying153, Tryz.underlying181, Tryz.underlying182⟩
set_option maxRecDepth 100000 in
theorem uextra : U8Extra Tryz.prog uren := ⟨by kernel_rfl, by kernel_rfl, by kernel_rfl, by kernel_rfl, by kernel_rfl, by kernel_rfl, by kernel_rfl⟩
set_option maxRecDepth 100000 in
theorem gl_of {W : World} (h : laidMetH Tryz.prog Rows.originSameRow.laid W) (hs : W.ShapedOpen Tryz.prog) : Gl W := by
  rw [MakeChecks.laidMetH_plain _ _ _ (by kernel_rfl)] at h
  have rpow := Lib.laidMet.reads h (n := "internal/strconv.uint64pow10") (d := Rows.laid_internal_strconv_uint64pow10) (by simp [Rows.originSameRow])
  have rdeb := Lib.laidMet.reads h (n := "math/bits.deBruijn64tab") (d := Rows.laid_math_bits_deBruijn64tab) (by simp [Rows.originSameRow])
  have racc := Lib.laidMet.reads h (n := "unicode/utf8.acceptRanges") (d := Rows.laid_unicode_utf8_acceptRanges) (by simp [Rows.originSameRow])
  have rfst := Lib.laidMet.reads h (n := "unicode/utf8.first") (d := Rows.laid_unicode_utf8_first) (by simp [Rows.originSameRow])
  have rsyn := Lib.laidMet.reads h (n := "strconv.ErrSyntax") (d := Rows.laid_strconv_ErrSyntax) (by simp [Rows.originSameRow])
  have rrng := Lib.laidMet.reads h (n := "strconv.ErrRange") (d := Rows.laid_strconv_ErrRange) (by simp [Rows.originSameRow])
  have hpow : TabIs Tryz.prog W "internal/strconv.uint64pow10" .u64 Lib.pow10Tab :=
    tab_of_reads (g := 3) (n := 20) (by kernel_rfl) (by kernel_rfl) Tryz.underlying198 Tryz.underlying93 (by kernel_rfl) (by kernel_rfl) rpow
  have hdeb : TabIs Tryz.prog W "math/bits.deBruijn64tab" .u8 ((List.range 64).map fun j => ((Lib.deBruijn64tab.getD j 0 : Nat) : Int)) :=
    tab_of_reads (g := 5) (n := 64) (by kernel_rfl) (by kernel_rfl) Tryz.underlying239 Tryz.underlying5 (by kernel_rfl) (by kernel_rfl) rdeb
  have htabs := utf8Tabs_of_readsT utypes uextra (w := W) rfst racc
  have hml := cell_of_shapedOpen_int (g := 0) (t := 3) (zero := #[.int .i64 0]) (k := .i64) hs (by decide +kernel) (by kernel_rfl) rfl (by kernel_rfl) (by kernel_rfl) Tryz.underlying3
  have hsy := err_of_reads (g := 6) (by kernel_rfl) (by kernel_rfl) Tryz.underlying89 rsyn
  have hrg := err_of_reads (g := 7) (by kernel_rfl) (by kernel_rfl) Tryz.underlying89 rrng
  refine ⟨?_, hml, htabs, hpow, ?_, hsy, hrg⟩
  · obtain ⟨e1, he1, _⟩ := hrg
    obtain ⟨e2, he2, _⟩ := hsy
    obtain ⟨m, hm⟩ := hml
    have b1 := World.block_lt_of_cell? W _ he1
    have b2 := World.block_lt_of_cell? W _ he2
    have b3 := World.block_lt_of_cell? W _ hm
    have b4 := World.block_lt_of_cell? W _ (TabIs.cell hdeb (g := 5) (by kernel_rfl) 0 (by simp))
    simp only at b1 b2 b3 b4
    omega
  · intro j hj
    have hc := TabIs.cell hdeb (g := 5) (by kernel_rfl) j (by simpa using hj)
    rw [hc]
    simp [List.getD, hj]
end Go.Proofs.YtfonfcbibdfplaaGreatDoor

/- What every row wants. No condition. -/
namespace Go.Proofs.YtfonfcbibdfplaaGreatDoor
open Go Go.ChangeShapes Go.WideShapes Go.ChangeAt Go.RowKit Go.ChangeMaps

theorem own : ownKnob Tryz.prog.godebug = none := by kernel_rfl
/-- What a row's end asks, where the call leaves all that was there. -/
theorem post_below {H : Type} {enc : TypeId × Value → H} {P : Program} {f : Func} {s : ChangeSpec} {apart fresh handsOn : Bool} {W W' : World} {args : Array Value} {v : Value} {ds gs : List (DataW H)} {before pa pv : List MemPlace}
    (hW : DataW.Whole enc P f.params.toList s.vars apart W args.toList ds gs before)
    (hres : ∀ (b : Nat) (sp : Nat → Bool) (hd : Bool), DataW.TrodAll enc P W' b sp hd f.resultTypes.toList (v.resultList f.resultTypes.size) (s.fn H (ds ++ gs)).results [])
    (hargs : ∀ sp : Nat → Bool, (∀ p ∈ before, sp p.block = true) → DataW.TrodAll enc P W' 0 sp true f.params.toList args.toList (s.fn H (ds ++ gs)).args pa)
    (hvars : ∀ sp : Nat → Bool, (∀ p ∈ before, sp p.block = true) → DataW.TrodVars enc P W' sp s.vars (s.fn H (ds ++ gs)).vars pv)
    (hps : before = pa ++ pv) (hb : Below W.heap.size W W') : s.post enc P f apart fresh handsOn false W args v W' := by
  have hold : ∀ p ∈ before, (fun b => decide (b < W.heap.size)) p.block = true := fun p hp => by simpa using hW.lt p hp
  refine ⟨ds, gs, before, [], pa, pv, hW, hres _ _ _, hargs _ hold, hvars _ hold, World.keptBut_mono (fun p hp => ⟨hp, ?_⟩) (hb.frame _), fun h => by cases h⟩
  rw [hps, List.mem_append] at hp
  exact Or.inr hp

/-- The same, with the arguments read at what was there: what a row's end asks, where the call leaves all that was there. -/
theorem post_belowS {H : Type} {enc : TypeId × Value → H} {P : Program} {f : Func} {s : ChangeSpec} {apart fresh handsOn : Bool} {W W' : World} {args : Array Value} {v : Value} {ds gs : List (DataW H)} {before pa pv : List MemPlace}
    (hW : DataW.Whole enc P f.params.toList s.vars apart W args.toList ds gs before)
    (hres : ∀ (b : Nat) (sp : Nat → Bool) (hd : Bool), DataW.TrodAll enc P W' b sp hd f.resultTypes.toList (v.resultList f.resultTypes.size) (s.fn H (ds ++ gs)).results [])
    (hargs : DataW.TrodAll enc P W' 0 (fun b => decide (b < W.heap.size)) true f.params.toList args.toList (s.fn H (ds ++ gs)).args pa)
    (hvars : ∀ sp : Nat → Bool, (∀ p ∈ before, sp p.block = true) → DataW.TrodVars enc P W' sp s.vars (s.fn H (ds ++ gs)).vars pv)
    (hps : before = pa ++ pv) (hb : Below W.heap.size W W') : s.post enc P f apart fresh handsOn false W args v W' := by
  have hold : ∀ p ∈ before, (fun b => decide (b < W.heap.size)) p.block = true := fun p hp => by simpa using hW.lt p hp
  refine ⟨ds, gs, before, [], pa, pv, hW, hres _ _ _, hargs, hvars _ hold, World.keptBut_mono (fun p hp => ⟨hp, ?_⟩) (hb.frame _), fun h => by cases h⟩
  rw [hps, List.mem_append] at hp
  exact Or.inr hp

theorem and2 {a b : Bool} (ha : a = true) (hb : b = true) : (a && b) = true := by rw [ha, hb]; rfl
theorem laidOutP : laidOutB Tryz.prog = true := by kernel_rfl
end Go.Proofs.YtfonfcbibdfplaaGreatDoor

/- url.Path: contract. No condition. -/
namespace Go.Proofs.YtfonfcbibdfplaaGreatDoor
open Go.RowKit

set_option maxRecDepth 100000 in
set_option maxHeartbeats 1000000 in
theorem url_Path_opq (u : Url) (pv : Value) (w : World) (ho : u.opq = true) :
    Calls Tryz.prog 41 #[.agg (urlCells u pv).toArray] w fun e w' => e = .returned (.string (str (pathU u))) ∧ Below w.heap.size w w' := by
  have hp : pathU u = u.text := by unfold pathU; rw [ho]; rfl
  rw [hp]
  show Calls Tryz.prog 41 #[.agg #[.string (str u.scheme), .string (str u.user), .string (str u.pass), .string (str u.host), .bool u.hasHost, .int .i64 u.port, .bool u.opq, .string (str u.text), pv, .bool u.hasQ, .bool u.hasF, .string (str u.query), .string (str u.frag)]] w _
  clear hp
  go_enter Tryz.func41, Tryz.ntmps41
  go_wp2_with fail
  go_ret
  exact ⟨rfl, (Below.refl _ _).alloc (Nat.le_refl _) _⟩

theorem flat_len (l : List Bs) : l.length ≤ (l.flatMap fun s => (47 : UInt8) :: s).length := by
  induction l with
  | nil => simp
  | cons a t ih => simp only [List.flatMap_cons, List.length_append, List.length_cons]; omega
theorem flat_take (l : List Bs) (k : Nat) (hk : k < l.length) : ((l.take (k + 1)).flatMap fun s => (47 : UInt8) :: s) = ((l.take k).flatMap fun s => (47 : UInt8) :: s) ++ (47 :: l[k]) := by
  rw [List.take_succ_eq_append_getElem hk, List.flatMap_append]; simp
theorem flat_le (l : List Bs) (k : Nat) : ((l.take k).flatMap fun s => (47 : UInt8) :: s).length ≤ (l.flatMap fun s => (47 : UInt8) :: s).length := by
  conv => rhs; rw [← List.take_append_drop k l, List.flatMap_append, List.length_append]
  omega
theorem Bld_new2 (w : World) (A : Obj) : Bld (w.heap.size + 1) (w.heap.size + 1) [] ((w.alloc A).alloc (.cells #[.pointer none, .slice none 0 0] 87)) := by
  have h := Bld_new (w.alloc A)
  have e : (w.alloc A).heap.size = w.heap.size + 1 := by simp
  rw [e] at h
  exact h
set_option maxRecDepth 100000 in
set_option maxHeartbeats 1000000 in
theorem url_Path_some (u : Url) (pv : Value) (w : World) (ho : u.opq = false) (hr : Rd w pv (u.path.map strV)) (h0 : u.path ≠ []) (hlen : (pathU u).length ≤ 1073741824) :
    Calls Tryz.prog 41 #[.agg (urlCells u pv).toArray] w fun e w' => e = .returned (.string (str (pathU u))) ∧ Below w.heap.size w w' := by
  have hp : pathU u = u.path.flatMap fun s => 47 :: s := by unfold pathU; rw [ho]; rfl
  rw [hp] at hlen ⊢
  have lb0 := hr.lt (by simpa using h0)
  obtain ⟨bk, o, c, rfl, hc, hx⟩ := hr.open (by simpa using h0)
  have lb := lb0 bk rfl
  clear lb0
  simp only [List.length_map] at hc
  have hfl := flat_len u.path
  show Calls Tryz.prog 41 #[.agg #[.string (str u.scheme), .string (str u.user), .string (str u.pass), .string (str u.host), .bool u.hasHost, .int .i64 u.port, .bool u.opq, .string (str u.text), .slice (some ⟨bk, o, none⟩) (u.path.map strV).length c, .bool u.hasQ, .bool u.hasF, .string (str u.query), .string (str u.frag)]] w _
  rw [List.length_map, ho]
  clear hp h0 hr ho
  have HX := Lib.hid (And.intro hx (And.intro hlen hfl))
  have hlp : u.path.length ≤ 1073741824 := by omega
  clear hx hlen hfl
  generalize u.path = P at *
  go_enter Tryz.func41, Tryz.ntmps41
  go_wp2_with fail
  go_loopw [13] (fun i wr => ∃ k : Nat, k ≤ P.length ∧ i = .int .i64 k ∧ Bld (w.heap.size + 1) (w.heap.size + 1) ((P.take k).flatMap fun s => 47 :: s) wr ∧ Below w.heap.size w wr ∧ w.heap.size + 1 ≤ wr.heap.size) (fun i _ => P.length - (intOf i).toNat)
  case atStart => exact ⟨0, Nat.zero_le _, rfl, Bld_new2 w _, ((Below.refl _ _).alloc (Nat.le_refl _) _).alloc (by simp) _, by simp⟩
  case round =>
    obtain ⟨k, hk, rfl, hb, hw, hs⟩ := hrel
    by_cases hlt : k < P.length
    · have hlti : (k : Int) < (P.length : Int) := by omega
      have hk1 : IntKind.i64.wrap ((k : Int) + 1) = (k : Int) + 1 := IntWalk.i64_in _ (by omega)
      have hcell : wr.cell? ⟨bk, o + k, none⟩ = some (.string (str P[k])) := by
        rw [hw.cell (p := ⟨bk, o + k, none⟩) lb]
        exact HX.out.1 k (strV P[k]) (by rw [List.getElem?_map, List.getElem?_eq_getElem hlt]; rfl)
      have ht := flat_take P k hlt
      have hl2 : ((P.take k).flatMap fun s => (47 : UInt8) :: s).length + (47 :: P[k]).length ≤ 140737488355328 := by
        have h1 := flat_le P (k + 1)
        rw [ht, List.length_append] at h1
        have := HX.out.2.1
        omega
      have hs1 : ¬ 9223372036854775807 < P[k].length + 1 := by
        simp only [List.length_cons] at hl2; omega
      have hs2 : ¬ 9223372036854775807 < 1 + P[k].length := by omega
      have HT := Lib.hid (And.intro ht (And.intro hl2 (And.intro hb (And.intro hw hs))))
      clear ht hl2 hb hw hs
      go_wp2_with (go_at_call 96; refine (Builder_WriteString _ _ _ (47 :: P[k]) _ HT.out.2.2.1 HT.out.2.1 HT.out.2.2.2.2).mono ?_; rintro e w1 ⟨rfl, hb1, hw1⟩)
      go_roundw
      case rel => exact ⟨k + 1, by omega, by go_num, by rw [HT.out.1]; exact hb1, HT.out.2.2.2.1.trans (hw1.mono (Nat.le_succ _)), Nat.le_trans HT.out.2.2.2.2 hw1.size⟩
      case measure => simp [intOf]; omega
    · rw [List.take_of_length_le (by omega)] at hb
      have HT := Lib.hid (And.intro hb (And.intro hw hs))
      clear hb hw hs
      go_wp2_with (go_at_call 97; refine (Builder_String _ _ _ _ HT.out.1 HT.out.2.2).mono ?_; rintro e w1 ⟨rfl, hw1⟩)
      go_ret
      exact ⟨rfl, HT.out.2.1.trans (hw1.mono (Nat.le_succ _))⟩
set_option maxRecDepth 100000 in
set_option maxHeartbeats 1000000 in
theorem url_Path_nil (u : Url) (pv : Value) (w : World) (ho : u.opq = false) (hr : Rd w pv (u.path.map strV)) (h0 : u.path = []) :
    Calls Tryz.prog 41 #[.agg (urlCells u pv).toArray] w fun e w' => e = .returned (.string (str (pathU u))) ∧ Below w.heap.size w w' := by
  have hp : pathU u = [] := by unfold pathU; rw [ho, h0]; rfl
  rw [hp]
  rw [h0] at hr
  obtain ⟨pa, pc, rfl⟩ := Rd.nil hr
  show Calls Tryz.prog 41 #[.agg #[.string (str u.scheme), .string (str u.user), .string (str u.pass), .string (str u.host), .bool u.hasHost, .int .i64 u.port, .bool u.opq, .string (str u.text), .slice pa 0 pc, .bool u.hasQ, .bool u.hasF, .string (str u.query), .string (str u.frag)]] w _
  rw [ho]
  clear hp h0 hr ho
  go_enter Tryz.func41, Tryz.ntmps41
  go_wp2_with fail
  go_loopw [13] (fun i wr => i = .int .i64 0 ∧ Bld (w.heap.size + 1) (w.heap.size + 1) [] wr ∧ Below w.heap.size w wr ∧ w.heap.size + 1 ≤ wr.heap.size) (fun _ _ => 0)
  case atStart => exact ⟨rfl, Bld_new2 w _, ((Below.refl _ _).alloc (Nat.le_refl _) _).alloc (by simp) _, by simp⟩
  case round =>
    obtain ⟨rfl, hb, hw, hs⟩ := hrel
    have HT := Lib.hid (And.intro hb (And.intro hw hs))
    clear hb hw hs
    go_wp2_with (go_at_call 97; refine (Builder_String _ _ _ _ HT.out.1 HT.out.2.2).mono ?_; rintro e w1 ⟨rfl, hw1⟩)
    go_ret
    exact ⟨rfl, HT.out.2.1.trans (hw1.mono (Nat.le_succ _))⟩
theorem url_Path (u : Url) (pv : Value) (w : World) (hr : Rd w pv (u.path.map strV)) (hlen : (pathU u).length ≤ 1073741824) :
    Calls Tryz.prog 41 #[.agg (urlCells u pv).toArray] w fun e w' => e = .returned (.string (str (pathU u))) ∧ Below w.heap.size w w' := by
  cases ho : u.opq with
  | true => exact url_Path_opq u pv w ho
  | false =>
    by_cases h0 : u.path = []
    · exact url_Path_nil u pv w ho hr h0
    · exact url_Path_some u pv w ho hr h0 hlen
end Go.Proofs.YtfonfcbibdfplaaGreatDoor

/- origin.Tuple, origin.Same, carryallref13.Same: contracts. No condition. -/
namespace Go.Proofs.YtfonfcbibdfplaaGreatDoor
open Go.RowKit

/-- An origin. -/
structure Org where
  scheme : Bs
  host : Bs
  port : Int
  nonce : Int
def orgV (o : Org) : Value := .agg #[.string (str o.scheme), .string (str o.host), .int .i64 o.port, .int .i64 o.nonce]
def sameO (a b : Org) : Bool := if a.scheme.isEmpty && b.scheme.isEmpty then a.nonce == b.nonce else a.scheme == b.scheme && a.host == b.host && a.port == b.port

set_option maxRecDepth 100000 in
set_option maxHeartbeats 1000000 in
theorem origin_Tuple (o : Org) (w : World) :
    Calls Tryz.prog 19 #[orgV o] w fun e w' => e = .returned (.bool (!o.scheme.isEmpty)) ∧ Below w.heap.size w w' := by
  unfold orgV
  go_enter Tryz.func19, Tryz.ntmps19
  go_wp2_with fail
  go_ret
  refine ⟨?_, (Below.refl _ _).alloc (Nat.le_refl _) _⟩
  first | rfl | (congr 2; cases o.scheme <;> rfl) | (apply ret_bool; cases o.scheme <;> simp)

set_option maxRecDepth 100000 in
set_option maxHeartbeats 1000000 in
theorem ref13_Same (a b : Org) (w : World) :
    Calls Tryz.prog 21 #[orgV a, orgV b] w fun e w' => e = .returned (.bool (sameO a b)) ∧ Below w.heap.size w w' := by
  unfold orgV sameO
  have hB : ∀ A B, Below w.heap.size w ((w.alloc A).alloc B) := fun A B => ((Below.refl w.heap.size w).alloc (Nat.le_refl _) _).alloc (by simp) _
  cases h1 : a.scheme.isEmpty <;> cases h2 : b.scheme.isEmpty <;> cases h3 : (a.scheme == b.scheme) <;> cases h4 : (a.host == b.host)
  all_goals
    go_enter Tryz.func21, Tryz.ntmps21
    go_wp2_with fail
    go_ret
    exact ⟨rfl, hB _ _⟩

/-- Two origins in their boxes, and how the world came there. -/
structure T2 (a b : Org) (w w' : World) : Prop where
  ka : w'.cell? ⟨w.heap.size, 0, none⟩ = some (.string (str a.scheme)) ∧ w'.cell? ⟨w.heap.size, 1, none⟩ = some (.string (str a.host)) ∧ w'.cell? ⟨w.heap.size, 2, none⟩ = some (.int .i64 a.port) ∧ w'.cell? ⟨w.heap.size, 3, none⟩ = some (.int .i64 a.nonce)
  kb : w'.cell? ⟨w.heap.size + 1, 0, none⟩ = some (.string (str b.scheme)) ∧ w'.cell? ⟨w.heap.size + 1, 1, none⟩ = some (.string (str b.host)) ∧ w'.cell? ⟨w.heap.size + 1, 2, none⟩ = some (.int .i64 b.port) ∧ w'.cell? ⟨w.heap.size + 1, 3, none⟩ = some (.int .i64 b.nonce)
  lt : w.heap.size + 1 < w'.heap.size
  bw : Below w.heap.size w w'
theorem T2.next {a b : Org} {w w1 w2 : World} (h : T2 a b w w1) (hb : Below w1.heap.size w1 w2) : T2 a b w w2 := by
  have l1 : w.heap.size < w1.heap.size := by have := h.lt; omega
  have ea : ∀ j, w2.cell? ⟨w.heap.size, j, none⟩ = w1.cell? ⟨w.heap.size, j, none⟩ := fun j => hb.cell (p := ⟨w.heap.size, j, none⟩) l1
  have eb : ∀ j, w2.cell? ⟨w.heap.size + 1, j, none⟩ = w1.cell? ⟨w.heap.size + 1, j, none⟩ := fun j => hb.cell (p := ⟨w.heap.size + 1, j, none⟩) h.lt
  refine ⟨?_, ?_, Nat.lt_of_lt_of_le h.lt hb.size, h.bw.trans (hb.mono h.bw.size)⟩
  · rw [ea, ea, ea, ea]; exact h.ka
  · rw [eb, eb, eb, eb]; exact h.kb
theorem T2.new (a b : Org) (w : World) (t : TypeId) : T2 a b w ((w.alloc (.cells #[.string (str a.scheme), .string (str a.host), .int .i64 a.port, .int .i64 a.nonce] t)).alloc (.cells #[.string (str b.scheme), .string (str b.host), .int .i64 b.port, .int .i64 b.nonce] t)) := by
  have h1 : (w.alloc (.cells #[.string (str a.scheme), .string (str a.host), .int .i64 a.port, .int .i64 a.nonce] t)).heap[w.heap.size]? = _ := heap_alloc_new w _
  have e : (w.alloc (.cells #[.string (str a.scheme), .string (str a.host), .int .i64 a.port, .int .i64 a.nonce] t)).heap.size = w.heap.size + 1 := by simp
  have hb1 : Below w.heap.size w (w.alloc (.cells #[.string (str a.scheme), .string (str a.host), .int .i64 a.port, .int .i64 a.nonce] t)) := (Below.refl _ _).alloc (Nat.le_refl _) _
  generalize w.alloc (.cells #[.string (str a.scheme), .string (str a.host), .int .i64 a.port, .int .i64 a.nonce] t) = W1 at *
  have h2 : (W1.alloc (.cells #[.string (str b.scheme), .string (str b.host), .int .i64 b.port, .int .i64 b.nonce] t)).heap[W1.heap.size]? = _ := heap_alloc_new W1 _
  have hb2 : Below W1.heap.size W1 (W1.alloc (.cells #[.string (str b.scheme), .string (str b.host), .int .i64 b.port, .int .i64 b.nonce] t)) := (Below.refl _ _).alloc (Nat.le_refl _) _
  have h1' := (hb2.block w.heap.size (by omega)).trans h1
  rw [e] at h2
  refine ⟨⟨?_, ?_, ?_, ?_⟩, ⟨?_, ?_, ?_, ?_⟩, by simp; omega, hb1.trans (hb2.mono (by omega))⟩
  all_goals first | (rw [cell_of h1']; rfl) | (rw [cell_of h2]; rfl)
set_option maxRecDepth 100000 in
set_option maxHeartbeats 1000000 in
theorem origin_Same (a b : Org) (w : World) :
    Calls Tryz.prog 20 #[orgV a, orgV b] w fun e w' => e = .returned (.bool (sameO a b)) ∧ Below w.heap.size w w' := by
  have HA := Lib.hid (fun w => origin_Tuple a w)
  have HB := Lib.hid (fun w => origin_Tuple b w)
  have t2 := T2.new a b w 32
  unfold orgV at HA HB
  unfold orgV sameO
  cases h1 : a.scheme.isEmpty <;> cases h2 : b.scheme.isEmpty <;> cases h3 : (a.scheme == b.scheme) <;> cases h4 : (a.host == b.host)
  all_goals
    rw [h1] at HA
    rw [h2] at HB
    go_enter Tryz.func20, Tryz.ntmps20
    go_wp2_with (first
      | (go_at_call 19; (with_reducible refine (HA.out _).mono ?_); rintro e w1 ⟨rfl, hw1⟩; have t2 := t2.next hw1; obtain ⟨k0, k1, k2, k3⟩ := t2.ka; obtain ⟨m0, m1, m2, m3⟩ := t2.kb)
      | (go_at_call 19; (with_reducible refine (HB.out _).mono ?_); rintro e w1 ⟨rfl, hw1⟩; have t2 := t2.next hw1; obtain ⟨k0, k1, k2, k3⟩ := t2.ka; obtain ⟨m0, m1, m2, m3⟩ := t2.kb))
    go_ret
    first | exact ⟨rfl, t2.bw⟩ | (refine ⟨?_, t2.bw⟩; exact ret_bool (by simp_all))
end Go.Proofs.YtfonfcbibdfplaaGreatDoor

/- Blocks of thirteen cells, and two new blocks: plain laws. No condition. -/
namespace Go.Proofs.YtfonfcbibdfplaaGreatDoor
open Go.RowKit

theorem cells13 {w : World} {g : Nat} {x0 x1 x2 x3 x4 x5 x6 x7 x8 x9 x10 x11 x12 : Value} {t : TypeId} (h : w.heap[g]? = some (.cells #[x0, x1, x2, x3, x4, x5, x6, x7, x8, x9, x10, x11, x12] t)) : w.cell? ⟨g, 0, none⟩ = some x0 ∧ w.cell? ⟨g, 1, none⟩ = some x1 ∧ w.cell? ⟨g, 2, none⟩ = some x2 ∧ w.cell? ⟨g, 3, none⟩ = some x3 ∧ w.cell? ⟨g, 4, none⟩ = some x4 ∧ w.cell? ⟨g, 5, none⟩ = some x5 ∧ w.cell? ⟨g, 6, none⟩ = some x6 ∧ w.cell? ⟨g, 7, none⟩ = some x7 ∧ w.cell? ⟨g, 8, none⟩ = some x8 ∧ w.cell? ⟨g, 9, none⟩ = some x9 ∧ w.cell? ⟨g, 10, none⟩ = some x10 ∧ w.cell? ⟨g, 11, none⟩ = some x11 ∧ w.cell? ⟨g, 12, none⟩ = some x12 := by
  refine ⟨?_, ?_, ?_, ?_, ?_, ?_, ?_, ?_, ?_, ?_, ?_, ?_, ?_⟩ <;> (rw [cell_of h]; rfl)
theorem two_new (w2 : World) (A B : Obj) : ((w2.alloc A).alloc B).heap[w2.heap.size + 1]? = some B := by
  have h := heap_alloc_new (w2.alloc A) B
  have e : (w2.alloc A).heap.size = w2.heap.size + 1 := by simp
  rw [e] at h
  exact h
theorem two_old (w2 : World) (A B : Obj) : ((w2.alloc A).alloc B).heap[w2.heap.size]? = some A := by
  have h := heap_alloc_new w2 A
  have hb : Below (w2.alloc A).heap.size (w2.alloc A) ((w2.alloc A).alloc B) := (Below.refl _ _).alloc (Nat.le_refl _) _
  exact (hb.block w2.heap.size (by simp)).trans h
theorem two_lt (w2 : World) (A B : Obj) : w2.heap.size + 1 < ((w2.alloc A).alloc B).heap.size := by simp
end Go.Proofs.YtfonfcbibdfplaaGreatDoor

/- origin.tuple: contract; results of an origin that lies in memory. No condition. -/
namespace Go.Proofs.YtfonfcbibdfplaaGreatDoor
open Go.RowKit

def orgOf (u : Url) : Org := ⟨u.scheme, u.host, u.port, 0⟩
theorem loadOrg {w : World} {b : Nat} {cs : Array Value} (h : w.heap[b]? = some (.cells cs 32)) (hs : cs.size = 4) : (loadVar 32 ⟨b, 0, none⟩).run Tryz.prog w = .ok (.agg cs) w :=
  run_loadVar_row _ _ 32 32 cs (0, 0) _ h Tryz.underlying32 rfl (by rw [hs]; kernel_rfl)
set_option maxRecDepth 100000 in
theorem org_res {fn : Func} {p : Tmp} {tmps : Array Value} {b : Nat} {cs : Array Value} {w : World} (h : fn.results = #[.cell p 32]) (hp : tmps.getD p undef = .pointer (some ⟨b, 0, none⟩))
    (hL : (loadVar 32 ⟨b, 0, none⟩).run Tryz.prog w = .ok (.agg cs) w) : (results fn tmps).run Tryz.prog w = .ok (.agg cs) w := by
  have ha : (asAddr (.pointer (some ⟨b, 0, none⟩))).run Tryz.prog w = .ok ⟨b, 0, none⟩ w := by simp [asAddr]
  have hp' : tmps[p]?.getD undef = .pointer (some ⟨b, 0, none⟩) := by simpa using hp
  simp [results, h, hp', ha, hL]
set_option maxRecDepth 100000 in
theorem org_res2 {fn : Func} {p q : Tmp} {tmps : Array Value} {b : Nat} {k : Bool} {cs : Array Value} {w : World} (h : fn.results = #[.cell p 32, .tmp q]) (hp : tmps.getD p undef = .pointer (some ⟨b, 0, none⟩)) (hq : tmps.getD q undef = .bool k)
    (hL : (loadVar 32 ⟨b, 0, none⟩).run Tryz.prog w = .ok (.agg cs) w) : (results fn tmps).run Tryz.prog w = .ok (.tuple #[.agg cs, .bool k]) w := by
  have ha : (asAddr (.pointer (some ⟨b, 0, none⟩))).run Tryz.prog w = .ok ⟨b, 0, none⟩ w := by simp [asAddr]
  rw [results_cell_tmp h, hp, hq, ha]
  simp only [Result.andThen, hL]
set_option maxRecDepth 100000 in
set_option maxHeartbeats 1000000 in
theorem origin_tuple (u : Url) (pv : Value) (w : World) :
    Calls Tryz.prog 40 #[.agg (urlCells u pv).toArray] w fun e w' => e = .returned (orgV (orgOf u)) ∧ Below w.heap.size w w' := by
  show Calls Tryz.prog 40 #[.agg #[.string (str u.scheme), .string (str u.user), .string (str u.pass), .string (str u.host), .bool u.hasHost, .int .i64 u.port, .bool u.opq, .string (str u.text), pv, .bool u.hasQ, .bool u.hasF, .string (str u.query), .string (str u.frag)]] w _
  go_enter Tryz.func40, Tryz.ntmps40
  go_wp2_with fail
  exact bodyPost_ret (v := orgV (orgOf u)) (org_res rfl rfl (loadOrg (two_new w _ _) rfl)) rfl ⟨rfl, ((Below.refl w.heap.size w).alloc (Nat.le_refl _) _).alloc (by simp) _⟩
theorem org_put {w : World} {g : Nat} {y0 y1 y2 y3 : Value} (h : w.heap[g]? = some (.cells #[y0, y1, y2, y3] 32)) (x0 x1 x2 x3 : Value) :
    ((((w.setCell ⟨g, 0, none⟩ x0).setCell ⟨g, 1, none⟩ x1).setCell ⟨g, 2, none⟩ x2).setCell ⟨g, 3, none⟩ x3).heap[g]? = some (.cells #[x0, x1, x2, x3] 32) := by
  have h' := set_of (set_of (set_of (set_of h 0 x0) 1 x1) 2 x2) 3 x3
  rw [h']; simp
theorem org_put_below {B : Nat} {w0 w : World} {g : Nat} (h : Below B w0 w) (hg : B ≤ g) (x0 x1 x2 x3 : Value) :
    Below B w0 ((((w.setCell ⟨g, 0, none⟩ x0).setCell ⟨g, 1, none⟩ x1).setCell ⟨g, 2, none⟩ x2).setCell ⟨g, 3, none⟩ x3) :=
  below_set (below_set (below_set (below_set h hg 0 x0) hg 1 x1) hg 2 x2) hg 3 x3
end Go.Proofs.YtfonfcbibdfplaaGreatDoor

