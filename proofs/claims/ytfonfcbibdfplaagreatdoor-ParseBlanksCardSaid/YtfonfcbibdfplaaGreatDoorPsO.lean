import Derived.Test.YtfonfcbibdfplaaGreatDoorG31
import Derived.Test.YtfonfcbibdfplaaGreatDoorG32
import Derived.Test.YtfonfcbibdfplaaGreatDoorG33
/- parse.Parse, whole. No condition. -/
namespace Go.Proofs.YtfonfcbibdfplaaGreatDoor
open Go.RowKit

set_option maxRecDepth 100000 in
set_option maxHeartbeats 2000000 in
theorem parse_Parse_long (l : Bs) (q : Option Addr) (w : World) (hl : 65536 < (l.length : Int)) :
    Calls Tryz.prog 15 #[.string (str l), .pointer q] w fun e w' => e = .returned (.tuple #[.agg (urlCells Url.zero (.slice none 0 0)).toArray, .int .i64 3]) ∧ Below w.heap.size w w' := by
  have hR : (w.alloc (.cells #[.string ⟨#[]⟩, .string ⟨#[]⟩, .string ⟨#[]⟩, .string ⟨#[]⟩, .bool false, .int .i64 0, .bool false, .string ⟨#[]⟩, .slice none 0 0, .bool false, .bool false, .string ⟨#[]⟩, .string ⟨#[]⟩] 25)).heap[w.heap.size]? = some (.cells #[.string ⟨#[]⟩, .string ⟨#[]⟩, .string ⟨#[]⟩, .string ⟨#[]⟩, .bool false, .int .i64 0, .bool false, .string ⟨#[]⟩, .slice none 0 0, .bool false, .bool false, .string ⟨#[]⟩, .string ⟨#[]⟩] 25) := heap_alloc_new w _
  have hw0 : Below w.heap.size w (w.alloc (.cells #[.string ⟨#[]⟩, .string ⟨#[]⟩, .string ⟨#[]⟩, .string ⟨#[]⟩, .bool false, .int .i64 0, .bool false, .string ⟨#[]⟩, .slice none 0 0, .bool false, .bool false, .string ⟨#[]⟩, .string ⟨#[]⟩] 25)) := (Below.refl _ _).alloc (Nat.le_refl _) _
  have zr := frozen_of hR
  obtain ⟨r0, r1, r2, r3, r4, r5, r6, r7, r8, r9, r10, r11, r12⟩ := zcells hR
  have HR := Lib.hid hR
  have HW := Lib.hid hw0
  clear hR hw0
  go_enter Tryz.func15, Tryz.ntmps15
  go_wp2_with fail
  have hL := loadUrl HR.out rfl
  exact bodyPost_ret (v := .tuple #[.agg (urlCells Url.zero (.slice none 0 0)).toArray, .int .i64 3]) (cell_res rfl rfl rfl hL) rfl ⟨rfl, HW.out⟩

theorem start_base (l : Bs) (base : Option Url) : (start l base).base = base := by
  unfold start; dsimp only; split <;> rfl
theorem start_pg {w w1 : World} {l : Bs} {base : Option Url} (hw : 7 < w.heap.size) (hl : l.length ≤ 65536) (hbl : ∀ b, base = some b → b.path.length ≤ 99999999) (hG : Gl w1) (hP : PSW (w.heap.size + 1) (start l base) w1) :
    PG (w.heap.size + 1) (start l base) w1 :=
  ⟨hP, hG, by omega, by have := (start_len l base).1; have := clean_len l; omega, fun b hb => hbl b (by rw [start_base] at hb; exact hb)⟩

/-- WHAT parse.Parse HANDS BACK: of any text, beside whatever base. -/
theorem parse_ParseO (l : Bs) (base : Option Url) (q : Option Addr) (w : World) (hG : Gl w) (hb : BaseW w w.heap.size (.pointer q) base) (hbl : ∀ b, base = some b → b.path.length ≤ 99999999) :
    Calls Tryz.prog 15 #[.string (str l), .pointer q] w fun e w' => ∃ pv, e = .returned (.tuple #[.agg (urlCells (parse l base).1 pv).toArray, .int .i64 ((parse l base).2 : Nat)]) ∧ Rd w' pv ((parse l base).1.path.map strV) ∧ Below w.heap.size w w' ∧ (∀ k, pv.ownBlock = some k → w.heap.size ≤ k ∧ k < w'.heap.size) := by
  by_cases hl : 65536 < l.length
  · have hp : parse l base = (Url.zero, 3) := by unfold parse; rw [if_pos hl]
    rw [hp]
    refine (parse_Parse_long l q w (by omega)).mono ?_
    rintro e w' ⟨rfl, h⟩
    exact ⟨_, rfl, rd_none w', h, fun k hk => by cases hk⟩
  · have hl1 : l.length ≤ 65536 := by omega
    have hli : (l.length : Int) ≤ 65536 := by omega
    have hcl := clean_len l
    have hc : (clean l).length ≤ 1073741824 := by omega
    obtain ⟨hq, hf⟩ := run_len l base
    have hq' : (run l base).query.length ≤ 1073741824 := by omega
    have hf' : (run l base).frag.length ≤ 1073741824 := by omega
    have hS : ∀ w1, hasScheme l = true → Gl w1 → PSW (w.heap.size + 1) (start l base) w1 → Calls Tryz.prog 35 #[.pointer (some ⟨w.heap.size + 1, 0, none⟩)] w1 fun e w' => e = .returned (.tuple #[]) ∧ PSW (w.heap.size + 1) (schemed (start l base)) w' ∧ Below (w.heap.size + 1) w1 w' :=
      fun w1 _ hG1 hP1 => par_schemed _ _ w1 (start_pg hG.size hl1 hbl hG1 hP1)
    have hN : ∀ w1, hasScheme l = false → Gl w1 → PSW (w.heap.size + 1) (start l base) w1 → Calls Tryz.prog 36 #[.pointer (some ⟨w.heap.size + 1, 0, none⟩)] w1 fun e w' => e = .returned (.tuple #[]) ∧ PSW (w.heap.size + 1) (plain (start l base)) w' ∧ Below (w.heap.size + 1) w1 w' :=
      fun w1 _ hG1 hP1 => par_plain _ _ w1 (start_pg hG.size hl1 hbl hG1 hP1)
    cases hsc : schemeP (sB l) with
    | some nr =>
      have hsh : hasScheme l = true := by unfold hasScheme; unfold sB at hsc; rw [hsc]; rfl
      have hrun : run l base = schemed (start l base) := by unfold run; rw [hsh]; rfl
      cases hbad : (schemed (start l base)).bad with
      | true =>
        have hp : parse l base = (Url.zero, 2) := by unfold parse; rw [if_neg hl, hrun, hbad]; rfl
        rw [hp]
        refine (parse_Parse_some_bad l base nr q w hG hb hli hc hS hq' hf' hsc hbad).mono ?_
        rintro e w' ⟨rfl, h⟩
        exact ⟨_, rfl, rd_none w', h, fun k hk => by cases hk⟩
      | false =>
        have hp : parse l base = ((finish (schemed (start l base))).u, 0) := by unfold parse; rw [if_neg hl, hrun, hbad]; rfl
        rw [hp]
        exact parse_Parse_some_good l base nr q w hG hb hli hc hS hq' hf' hsc hbad
    | none =>
      have hsh : hasScheme l = false := by unfold hasScheme; unfold sB at hsc; rw [hsc]; rfl
      have hrun : run l base = plain (start l base) := by unfold run; rw [hsh]; rfl
      cases hbad : (plain (start l base)).bad with
      | true =>
        have hp : parse l base = (Url.zero, 2) := by unfold parse; rw [if_neg hl, hrun, hbad]; rfl
        rw [hp]
        refine (parse_Parse_none_bad l base q w hG hb hli hc hN hq' hf' hsc hbad).mono ?_
        rintro e w' ⟨rfl, h⟩
        exact ⟨_, rfl, rd_none w', h, fun k hk => by cases hk⟩
      | false =>
        have hp : parse l base = ((finish (plain (start l base))).u, 0) := by unfold parse; rw [if_neg hl, hrun, hbad]; rfl
        rw [hp]
        exact parse_Parse_none_good l base q w hG hb hli hc hN hq' hf' hsc hbad
theorem parse_Parse (l : Bs) (base : Option Url) (q : Option Addr) (w : World) (hG : Gl w) (hb : BaseW w w.heap.size (.pointer q) base) (hbl : ∀ b, base = some b → b.path.length ≤ 99999999) :
    Calls Tryz.prog 15 #[.string (str l), .pointer q] w fun e w' => ∃ pv, e = .returned (.tuple #[.agg (urlCells (parse l base).1 pv).toArray, .int .i64 ((parse l base).2 : Nat)]) ∧ Rd w' pv ((parse l base).1.path.map strV) ∧ Below w.heap.size w w' :=
  (parse_ParseO l base q w hG hb hbl).mono fun _ _ ⟨pv, h1, h2, h3, _⟩ => ⟨pv, h1, h2, h3⟩
end Go.Proofs.YtfonfcbibdfplaaGreatDoor

