/- The globals' facts out of a row's laid variables and the world's shape. No condition. -/
import Derived.Test.YtfejbphkpgdpeaaGreatDoorWrap
import Derived.Test.YtfejbphkpgdpeaaGreatDoorBase
import Derived.Lib.LaidU8T
import Derived.Shelf.Vars
namespace Go.Proofs.YtfejbphkpgdpeaaGreatDoor
open Go.Lib

/-- A table that is listed, wherever it stands. -/
theorem tab_of_reads {P : Program} {W : World} {name : String} {k : IntKind} {zs : List Int} {g : Nat} {t e : TypeId} {n : Nat}
    (hg : P.globalNamed name = some g) (hty : (P.globals[g]?).map (·.type) = some t) (ht : P.underlying t = some (.array n e)) (he : P.underlying e = some (.int k)) (hce : P.cellsOf e = 1) (hct : P.cellsOf t = n)
    (h : VarReads P W name (tabData k zs)) : TabIs P W name k zs := by
  obtain ⟨g', t', cs, fuel, p, hg', ht', hvar, hd⟩ := h
  obtain rfl := Option.some.inj (hg.symm.trans hg')
  obtain rfl := Option.some.inj (hty.symm.trans ht')
  unfold TabIs
  rw [hvar, ← cells_of_tab ht he hce hct hd]

/-- A variable that is listed as a value in an interface holds one. -/
theorem err_of_reads {P : Program} {W : World} {name : String} {un : String} {x : DataW Unit} {g : Nat} {t : TypeId} {ms : Array (String × TypeId)}
    (hg : P.globalNamed name = some g) (hty : (P.globals[g]?).map (·.type) = some t) (ht : P.underlying t = some (.interface ms)) (h : VarReads P W name (.iface un x)) : ErrCell W g := by
  obtain ⟨g', t', cs, fuel, p, hg', ht', hvar, hd⟩ := h
  obtain rfl := Option.some.inj (hg.symm.trans hg')
  obtain rfl := Option.some.inj (hty.symm.trans ht')
  have hcell := World.var?_cell hg hvar 0
  cases fuel with
  | zero => simp [DataW.trod] at hd
  | succ fuel =>
    match hc : cs.toList, hd with
    | [], hd => simp [DataW.trod, ht] at hd
    | [v], hd =>
      have h0 : cs[0]? = some v := by rw [← Array.getElem?_toList, hc]; rfl
      refine ⟨v, by rw [hcell, h0], ?_⟩
      cases v with
      | nilIface => exact .inl rfl
      | iface u y => exact .inr ⟨_, _, rfl⟩
      | _ => simp [DataW.trod, ht] at hd
    | _ :: _ :: _, hd => simp [DataW.trod, ht] at hd

def uren : Go.Shelf.Ren := ⟨fun n => n, fun | 5 => 5 | 119 => 122 | 138 => 139 | 139 => 140 | n => n, fun | 3 => 1 | 4 => 2 | n => n⟩
set_option maxRecDepth 100000 in
theorem utypes : U8Types Tryz.prog uren := ⟨Tryz.underlying5, Tryz.underlying122, Tryz.underlying139, Tryz.underlying140⟩
set_option maxRecDepth 100000 in
theorem uextra : U8Extra Tryz.prog uren := ⟨by kernel_rfl, by kernel_rfl, by kernel_rfl, by kernel_rfl, by kernel_rfl, by kernel_rfl, by kernel_rfl⟩
set_option maxRecDepth 100000 in
theorem gl_of {W : World} (h : laidMetH Tryz.prog Rows.sortNamesRow.laid W) (hs : W.ShapedOpen Tryz.prog) : Gl W := by
  rw [MakeChecks.laidMetH_plain _ _ _ (by kernel_rfl)] at h
  have rpow := Lib.laidMet.reads h (n := "internal/strconv.uint64pow10") (d := Rows.laid_internal_strconv_uint64pow10) (by simp [Rows.sortNamesRow])
  have rdeb := Lib.laidMet.reads h (n := "math/bits.deBruijn64tab") (d := Rows.laid_math_bits_deBruijn64tab) (by simp [Rows.sortNamesRow])
  have racc := Lib.laidMet.reads h (n := "unicode/utf8.acceptRanges") (d := Rows.laid_unicode_utf8_acceptRanges) (by simp [Rows.sortNamesRow])
  have rfst := Lib.laidMet.reads h (n := "unicode/utf8.first") (d := Rows.laid_unicode_utf8_first) (by simp [Rows.sortNamesRow])
  have rsyn := Lib.laidMet.reads h (n := "strconv.ErrSyntax") (d := Rows.laid_strconv_ErrSyntax) (by simp [Rows.sortNamesRow])
  have rrng := Lib.laidMet.reads h (n := "strconv.ErrRange") (d := Rows.laid_strconv_ErrRange) (by simp [Rows.sortNamesRow])
  have hpow : TabIs Tryz.prog W "internal/strconv.uint64pow10" .u64 Lib.pow10Tab :=
    tab_of_reads (g := 3) (n := 20) (by kernel_rfl) (by kernel_rfl) Tryz.underlying216 Tryz.underlying186 (by kernel_rfl) (by kernel_rfl) rpow
  have hdeb : TabIs Tryz.prog W "math/bits.deBruijn64tab" .u8 ((List.range 64).map fun j => ((Lib.deBruijn64tab.getD j 0 : Nat) : Int)) :=
    tab_of_reads (g := 7) (n := 64) (by kernel_rfl) (by kernel_rfl) Tryz.underlying227 Tryz.underlying5 (by kernel_rfl) (by kernel_rfl) rdeb
  have htabs := utf8Tabs_of_readsT utypes uextra (w := W) rfst racc
  have hml := cell_of_shapedOpen_int (g := 0) (t := 3) (zero := #[.int .i64 0]) (k := .i64) hs (by decide +kernel) (by kernel_rfl) rfl (by kernel_rfl) (by kernel_rfl) Tryz.underlying3
  have hsy := err_of_reads (g := 4) (by kernel_rfl) (by kernel_rfl) Tryz.underlying95 rsyn
  have hrg := err_of_reads (g := 5) (by kernel_rfl) (by kernel_rfl) Tryz.underlying95 rrng
  refine ⟨?_, hml, htabs, hpow, ?_, hsy, hrg⟩
  · obtain ⟨e1, he1, _⟩ := hrg
    obtain ⟨e2, he2, _⟩ := hsy
    obtain ⟨m, hm⟩ := hml
    have b1 := World.block_lt_of_cell? W _ he1
    have b2 := World.block_lt_of_cell? W _ he2
    have b3 := World.block_lt_of_cell? W _ hm
    have b4 := World.block_lt_of_cell? W _ (TabIs.cell hdeb (g := 7) (by kernel_rfl) 0 (by simp))
    simp only at b1 b2 b3 b4
    omega
  · intro j hj
    have hc := TabIs.cell hdeb (g := 7) (by kernel_rfl) j (by simpa using hj)
    rw [hc]
    simp [List.getD, hj]
end Go.Proofs.YtfejbphkpgdpeaaGreatDoor
