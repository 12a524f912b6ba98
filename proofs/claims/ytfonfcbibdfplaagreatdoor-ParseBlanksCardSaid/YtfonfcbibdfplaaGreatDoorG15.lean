import Derived.Test.YtfonfcbibdfplaaGreatDoorG14
import Derived.Test.YtfonfcbibdfplaaGreatDoorG03
/- parse's parser: keep. No condition. -/
namespace Go.Proofs.YtfonfcbibdfplaaGreatDoor
open Go.RowKit

theorem app_none {P : Program} (w : World) (t ty e : TypeId) (i : TypeInfo) (ht : P.underlying t = some (.slice e)) (hi : P.info? e = some i) (b c : Nat) (x : Option Addr) :
    (Builtin.append_ #[t, t] ty #[.slice (some ⟨b, 0, none⟩) 0 0, .slice x 0 c]).run P w = .ok (.slice (some ⟨b, 0, none⟩) 0 0) w := by
  have hfc : (Builtin.firstCells i.size 0 (.slice x 0 c)).run P w = .ok #[] w := by
    cases x with
    | none => exact run_firstCells_none ..
    | some a => exact run_firstCells_some (P := P) w i.size 0 a 0 c [] (by simp) (by simp)
  have hst := run_storeCells_cells (P := P) b 0 [] 0 w (by simp) (by simp) (by simp)
  simp only [Nat.add_zero] at hst
  have hs2 : w.setCells b 0 [] = w := rfl
  simp [Builtin.append_, run_underlying ht, sizeOf, typeInfo, hi, Builtin.lenOf, hfc, Addr.add_lit, hst, hs2]
theorem app_copy (w : World) (l : List Bs) (v : Value) (b : Nat) (hb : b < w.heap.size) (hr : Rd w v (l.map strV)) (hl : l.length ≤ 1073741824) :
    ∃ a' c' w', ((Builtin.append_ #[23, 23] 23 #[.slice (some ⟨b, 0, none⟩) 0 0, v]).run Tryz.prog w = .ok (.slice a' l.length c') w') ∧
      Rd w' (.slice a' l.length c') (l.map strV) ∧ Below w.heap.size w w' ∧ (∀ k, (Value.slice a' l.length c').ownBlock = some k → b ≤ k ∧ k < w'.heap.size) := by
  obtain ⟨i, hi⟩ : ∃ i, Tryz.prog.info? 9 = some i := by
    have := info_str2
    cases h : Tryz.prog.info? 9 with
    | none => rw [h] at this; simp at this
    | some i => exact ⟨i, rfl⟩
  have hii := info_str2
  rw [hi] at hii
  simp only [Option.map_some, Option.some.injEq, Prod.mk.injEq] at hii
  have ht := Tryz.underlying23
  by_cases h0 : l = []
  · subst h0
    obtain ⟨a, c, rfl⟩ := Rd.nil (by simpa using hr)
    exact ⟨_, _, w, app_none w _ _ _ i ht hi b c a, ⟨_, _, rfl, Nat.zero_le _, .inr ⟨b, 0, rfl, by simp⟩⟩, Below.refl _ _, fun k hk => by
      have : b = k := by simpa [Value.ownBlock] using hk
      omega⟩
  · obtain ⟨a, o, c, rfl, hc, hx⟩ := hr.open (by simpa using h0)
    rw [strV_len] at *
    have hn : 0 < l.length := List.length_pos_iff.2 h0
    have hnews : ∀ (j : Nat) u, (l.map strV)[j]? = some u → w.cell? ((⟨a, o, none⟩ : Addr).add j) = some u := fun j u hj => by rw [Addr.add_lit]; exact hx j u hj
    obtain ⟨v', w', h1, h2, h3⟩ := run_append_arg_grows (P := Tryz.prog) w _ 23 _ i (.string ⟨#[]⟩) 1 16 ht hi hii.1 hii.2.1 hii.2.2 rfl (by decide) ⟨b, 0, none⟩ 0 0 [] rfl (by simp) ⟨a, o, none⟩ l.length c (l.map strV) (by simp) hnews (by omega) (by unfold maxLen; omega) (by omega)
    obtain ⟨a', c', rfl⟩ := own_val h2
    rw [Nat.zero_add] at *
    refine ⟨a', c', w', h1, owns_rd h2, ⟨h3.os, h3.tape, h3.output, h3.size, fun k hk => h3.block k hk (by simp)⟩, fun k hk => by have := h2.lt k hk; omega⟩
theorem wpList_append_run {P : Program} {w : World} {ops : Array Oper} {rest : List Oper} {o : Oper} {a : Act} {Q : Exit → Act → World → Prop} (hgd : o.guard = none) (s x : Operand) (t : TypeId)
    (ho : o.op = .call { callee := .builtin .append, args := #[s, x], argTypes := #[t, t] }) (v y : Value) (hs : a.eval s = v) (hx : a.eval x = y) (v' : Value) (w' : World)
    (hr : (Builtin.append_ #[t, t] o.type #[v, y]).run P w = .ok v' w') (h : wpList P ops Q rest (a.put o.dst v') w') : wpList P ops Q (o :: rest) a w := by
  refine wpList_plain hgd fun K hK => ?_
  have hk := hK _ _ h
  unfold Oper.wp
  simp [execOp, ho, resolve, invoke, builtin, hs, hx, hr, Result.andThen]
  exact hk
theorem PSW.path2 {g : Nat} {p q : PS} {w : World} {v : Value} {l : List Bs} (h : PSW g p w) (hv : Rd w v (l.map strV)) (hlt : ∀ k, v.ownBlock = some k → g < k ∧ k < w.heap.size)
    (hq : ∀ pv bv, (psCells p pv bv).setIfInBounds 8 v = psCells q v bv) (hp : q.u.path = l) (hb : q.base = p.base) : PSW g q (w.setCell ⟨g, 8, none⟩ v) := by
  obtain ⟨pv, bv, h1, h2, h3, h4⟩ := h
  have hs := set_of h1 8 v
  rw [hq] at hs
  have hsz : (w.setCell ⟨g, 8, none⟩ v).heap.size = w.heap.size := by simp [World.setCell]
  refine ⟨v, bv, hs, ?_, fun k hk => by rw [hsz]; exact hlt k hk, ?_⟩
  · rw [hp]
    obtain ⟨a, c, rfl, hc, h⟩ := hv
    refine ⟨a, c, rfl, hc, ?_⟩
    rcases h with h | ⟨b, o, rfl, h⟩
    · exact .inl h
    · refine .inr ⟨b, o, rfl, fun j u hj => ?_⟩
      rw [World.cell?_of_block (set_other b 8 _ (Nat.ne_of_gt (hlt b rfl).1))]
      exact h j u hj
  · rw [hb]
    exact h4.below (n := g) ⟨rfl, rfl, rfl, by rw [hsz]; exact Nat.le_refl _, fun k hk => set_other k 8 _ (by omega)⟩ (Nat.le_refl _)
theorem PSW.c9 {g : Nat} {p : PS} {w : World} (h : PSW g p w) : w.cell? ⟨g, 9, none⟩ = some (.bool p.u.hasQ) ∧ w.cell? ⟨g, 11, none⟩ = some (.string (str p.u.query)) := by
  obtain ⟨pv, bv, _, _, _, _, _, _, _, _, _, c9, _, c11, _⟩ := h.cells; exact ⟨c9, c11⟩
/-- The base's cells. -/
theorem PG.base_at {g : Nat} {p : PS} {u : Url} {w : World} (h : PG g p w) (hb : p.base = some u) : ∃ b qv, w.cell? ⟨g, 13, none⟩ = some (.pointer (some ⟨b, 0, none⟩)) ∧ b < g ∧
    (∀ (j : Nat) x, (urlCells u qv)[j]? = some x → w.cell? ⟨b, j, none⟩ = some x) ∧ Rd w qv (u.path.map strV) := by
  obtain ⟨pv, bv, _, _, _, _, _, _, _, _, _, _, _, _, _, c13, _, _, _, _, _, hbv, _⟩ := h.ps.cells
  rw [hb] at hbv
  obtain ⟨b, rfl, qv, hlt, hc, hrq, _⟩ := hbv
  exact ⟨b, qv, c13, hlt, hc, hrq⟩

set_option maxRecDepth 100000 in
set_option maxHeartbeats 4000000 in
theorem par_keep (g : Nat) (p : PS) (u : Url) (w : World) (hP : PG g p w) (hb : p.base = some u) :
    Calls Tryz.prog 115 #[.pointer (some ⟨g, 0, none⟩)] w fun e w' => e = .returned (.tuple #[]) ∧ PG g (keep p) w' ∧ Below g w w' := by
  have hul := hP.base u hb
  have hg := hP.ps.lt
  have hW1 : Below w.heap.size w (w.alloc (.cells #[] 9)) := (Below.refl _ _).alloc (Nat.le_refl _) _
  have hP1 := hP.next hW1
  have hlt1 : w.heap.size < (w.alloc (.cells #[] 9)).heap.size := by simp
  obtain ⟨b, qv, c13, hlt, hc, hrq⟩ := hP1.base_at hb
  obtain ⟨qa, qc, rfl, hqc, hqx⟩ := hrq
  have hrq : Rd (w.alloc (.cells #[] 9)) (.slice qa (u.path.map strV).length qc) (u.path.map strV) := ⟨qa, qc, rfl, hqc, hqx⟩
  rw [strV_len] at hrq hc
  obtain ⟨a', c', W2, hap, hrd, hW2, hown⟩ := app_copy (w.alloc (.cells #[] 9)) u.path _ w.heap.size hlt1 hrq (by omega)
  have hP2 := hP1.next hW2
  have hown2 : ∀ k, (Value.slice a' u.path.length c').ownBlock = some k → g < k ∧ k < W2.heap.size := fun k hk => by have := hown k hk; omega
  have h3 := hP2.ps.path2 (q := { p with u := { p.u with path := u.path } }) hrd hown2 (fun _ _ => rfl) rfl rfl
  have hB2 : Below g w W2 := (hW1.mono (Nat.le_of_lt hg)).trans (hW2.mono (by simp; omega))
  have hB3 := put_below _ _ hB2 8 (.slice a' u.path.length c')
  have hP3 := hP.mk' h3 hB3 rfl rfl
  obtain ⟨b3, qv3, f13, hlt3, hc3, _⟩ := hP3.base_at hb
  have d8 := hc 8 _ rfl
  have f9 := hc3 9 _ rfl
  have f11 := hc3 11 _ rfl
  obtain ⟨pv, c8⟩ := hP2.ps.c8
  obtain ⟨k9, k11⟩ := hP3.ps.c9
  have z2 := hP2.ps.fz 8
  have z3 := hP3.ps.fz
  have hne : b3 ≠ g := Nat.ne_of_lt hlt3
  have HH := Lib.hid (And.intro hP (And.intro hg (And.intro h3 (And.intro hB3 hP3))))
  clear hqc hqx hc hc3 hrq hrd hown hown2 hP hP1 hP2 h3 hB2 hB3 hP3 hW1 hW2 hlt1 hul
  cases hq : p.u.hasQ with
  | true =>
    rw [show ({ p with u := { p.u with path := u.path } } : PS).u.hasQ = true from hq] at k9
    go_enter Tryz.func115, Tryz.ntmps115
    go_wp2_with (at_builtin; refine wpList_append_run rfl _ _ 23 rfl _ _ rfl rfl _ _ hap ?_)
    go_end0
    have hk : keep p = { p with u := { p.u with path := u.path } } := by
      unfold keep; rw [hb]; simp only [hq, if_true]
    rw [hk]
    exact ⟨rfl, HH.out.2.2.2.2, HH.out.2.2.2.1⟩
  | false =>
    rw [show ({ p with u := { p.u with path := u.path } } : PS).u.hasQ = false from hq] at k9
    go_enter Tryz.func115, Tryz.ntmps115
    go_wp2_with (at_builtin; refine wpList_append_run rfl _ _ 23 rfl _ _ rfl rfl _ _ hap ?_)
    go_region
    go_end0
    have hk : keep p = { p with u := { p.u with path := u.path, hasQ := u.hasQ, query := u.query } } := by
      unfold keep; rw [hb]; simp only [hq]; rfl
    rw [hk]
    have h4 := HH.out.2.2.1.put (q := { p with u := { p.u with path := u.path, hasQ := u.hasQ } }) 9 (.bool u.hasQ) (fun _ _ => rfl) rfl rfl
    have h5 := h4.put (q := { p with u := { p.u with path := u.path, hasQ := u.hasQ, query := u.query } }) 11 (.string (str u.query)) (fun _ _ => rfl) rfl rfl
    have hB5 := (put_below _ _ (put_below _ _ HH.out.2.2.2.1 9 (.bool u.hasQ)) 11 (.string (str u.query))).drew
    exact ⟨rfl, HH.out.1.mk' h5.drew hB5 rfl rfl, hB5⟩
end Go.Proofs.YtfonfcbibdfplaaGreatDoor

/- Contracts of small functions over texts: colon, piece, number. No condition. -/
namespace Go.Proofs.YtfonfcbibdfplaaGreatDoor
open Go.RowKit

theorem colonF_shift : ∀ (l : Bs) (k : Nat) (b : Bool), colonF k b l = (colonF 0 b l).map (· + k)
  | [], _, _ => rfl
  | c :: t, k, b => by
    simp only [colonF]
    rw [colonF_shift t (k + 1), colonF_shift t (k + 1), colonF_shift t (k + 1) b, colonF_shift t (0 + 1) true, colonF_shift t (0 + 1) false, colonF_shift t (0 + 1) b]
    (repeat' split) <;> simp [Option.map_map, Function.comp_def, Nat.add_assoc, Nat.add_comm 1 k]
theorem byte_eq {c d : UInt8} : c = d ↔ (c.toNat : Int) = (d.toNat : Int) := by rw [← UInt8.toNat_inj]; omega
theorem colonF_cons (k : Nat) (b : Bool) (c : UInt8) (t : Bs) : colonF k b (c :: t) =
    if (c.toNat : Int) = 91 then colonF (k + 1) true t else if (c.toNat : Int) = 93 then colonF (k + 1) false t
    else if (c.toNat : Int) = 58 ∧ b = false then some k else colonF (k + 1) b t := by
  simp only [colonF, beq_iff_eq, Bool.and_eq_true, Bool.not_eq_true', byte_eq]
  rfl
def optI (o : Option Nat) : Int := match o with | some k => (k : Int) | none => -1

set_option maxHeartbeats 1000000 in
theorem parse_colon (l : Bs) (w : World) (hl : l.length ≤ 1073741824) :
    Calls Tryz.prog 162 #[.string (str l)] w fun e w' => e = .returned (.int .i64 (optI (colon l))) ∧ w = w' := by
  go_enter Tryz.func162, Tryz.ntmps162
  go_wp2_with fail
  go_loop [3, 7] (fun x i => ∃ (k : Nat) (b : Bool), k ≤ l.length ∧ i = .int .i64 k ∧ x = .bool b ∧ colon l = colonF k b (l.drop k)) (fun _ i => l.length - (intOf i).toNat)
  case atStart => exact ⟨0, false, Nat.zero_le _, rfl, rfl, rfl⟩
  case round =>
    obtain ⟨k, b, hk, rfl, rfl, hb⟩ := hrel
    by_cases hlt : k < l.length
    · rw [List.drop_eq_getElem_cons hlt] at hb
      rw [colonF_cons] at hb
      have HB := Lib.hid hb
      clear hb
      cases b
      all_goals
        go_wp2
        all_goals
          have e := HB.out
          simp only [beq_iff_eq, beq_eq_false_iff_ne, ne_eq, reduceCtorEq, and_false, and_true] at *
          first
          | (go_ret; refine ⟨ret_int ?_, rfl⟩; (repeat' split at e) <;> first | (rw [e]; rfl) | (exfalso; omega))
          | (refine ⟨⟨k + 1, _, by omega, by go_num, rfl, ?_⟩, by simp [intOf]; omega⟩; (repeat' split at e) <;> first | exact e | (exfalso; omega))
    · rw [List.drop_of_length_le (by omega)] at hb
      have HB := Lib.hid hb
      clear hb
      go_wp2
      go_ret
      exact ⟨ret_int (by rw [HB.out]; rfl), rfl⟩

theorem hexv_lt {c : UInt8} {d : Nat} (h : hexv c = some d) : d < 16 := by
  have hc := c.toNat_lt
  simp only [hexv, digit, UInt8.le_iff_toNat_le, Bool.and_eq_true, decide_eq_true_eq] at h
  (repeat' split at h) <;> simp at * <;> omega
theorem hexI_some {c : UInt8} {d : Nat} (h : hexv c = some d) : hexI c = d := by simp [hexI, h]
theorem hexI_none {c : UInt8} (h : hexv c = none) : hexI c = -1 := by simp [hexI, h]

theorem pieceF_lt : ∀ (l : Bs) (n r : Nat), pieceF n l = some r → r < (n + 1) * 16 ^ l.length
  | [], n, r, h => by simp [pieceF] at h; subst h; simp
  | c :: t, n, r, h => by
    simp only [pieceF] at h
    cases hd : hexv c with
    | none => simp [hd] at h
    | some d =>
      simp only [hd] at h
      have := pieceF_lt t _ _ h
      have h16 := hexv_lt hd
      have e : (n * 16 + d + 1) ≤ (n + 1) * 16 := by omega
      calc r < (n * 16 + d + 1) * 16 ^ t.length := this
        _ ≤ ((n + 1) * 16) * 16 ^ t.length := Nat.mul_le_mul_right _ e
        _ = (n + 1) * 16 ^ (t.length + 1) := by rw [Nat.pow_succ, Nat.mul_assoc, Nat.mul_comm 16]

set_option maxHeartbeats 1000000 in
theorem six_piece (l : Bs) (w : World) :
    Calls Tryz.prog 260 #[.string (str l)] w fun e w' => e = .returned (.tuple #[.int .u16 ((pieceS l).getD 0 : Nat), .bool (pieceS l).isSome]) ∧ w = w' := by
  by_cases h0 : l = []
  · subst h0
    go_enter Tryz.func260, Tryz.ntmps260
    go_wp2
    go_ret2
    exact ⟨rfl, rfl⟩
  have he : l.isEmpty = false := by simpa using h0
  by_cases h4 : 4 < l.length
  · have hs : pieceS l = none := by simp [pieceS, h4]
    rw [hs]
    have h4' : decide (4 < l.length) = true := by simpa using h4
    have h4i : (4 : Int) < (l.length : Int) := by omega
    go_enter Tryz.func260, Tryz.ntmps260
    go_wp2
    all_goals first | (go_ret2; exact ⟨rfl, rfl⟩) | trace_state
  have hs : pieceS l = pieceF 0 l := by simp [pieceS, h0, h4]
  have hl4 : (l.length : Int) ≤ 4 := by omega
  rw [hs]
  clear hs
  go_enter Tryz.func260, Tryz.ntmps260
  go_wp2_with fail
  go_loop [4, 16] (fun x i => ∃ (k n : Nat), k ≤ l.length ∧ i = .int .i64 k ∧ x = .int .i64 n ∧ n < 16 ^ k ∧ pieceF 0 l = pieceF n (l.drop k)) (fun _ i => l.length - (intOf i).toNat)
  case atStart => exact ⟨0, 0, Nat.zero_le _, rfl, rfl, by simp, rfl⟩
  case round =>
    obtain ⟨k, n, hk, rfl, rfl, hn, hb⟩ := hrel
    by_cases hlt : k < l.length
    · rw [List.drop_eq_getElem_cons hlt] at hb
      simp only [pieceF] at hb
      have hk3 : k ≤ 3 := by omega
      have hn4 : n < 4096 := Nat.lt_of_lt_of_le hn (Nat.pow_le_pow_right (n := 16) (by omega) hk3)
      have HN := Lib.hid hn
      clear hn
      cases hd : hexv l[k] with
      | none =>
        rw [hd] at hb
        have HB := Lib.hid hb
        have hx := hexI_none hd
        clear hb hd
        have hx0 : hexI l[k] < 0 := by omega
        go_wp2_with (go_at_call 242; refine (utf_Hex _ _).mono ?_; rintro e w' ⟨rfl, rfl⟩)
        all_goals
          go_ret2
          exact ⟨by rw [HB.out]; rfl, rfl⟩
      | some d =>
        rw [hd] at hb
        have HB := Lib.hid hb
        have hx := hexI_some hd
        have hd16 := hexv_lt hd
        clear hb hd
        have hj := i64_join4 n d (by omega) hd16
        go_wp2_with (go_at_call 242; refine (utf_Hex _ _).mono ?_; rw [hx]; rintro e w' ⟨rfl, rfl⟩)
        exact ⟨⟨k + 1, n * 16 + d, by omega, by go_num, by go_num, by have := HN.out; rw [Nat.pow_succ]; omega, HB.out⟩, by simp [intOf]; omega⟩
    · obtain rfl : k = l.length := by omega
      rw [List.drop_length] at hb
      have HB := Lib.hid hb
      clear hb
      have hn4 : n < 65536 := Nat.lt_of_lt_of_le hn (Nat.pow_le_pow_right (n := 16) (by omega) (show l.length ≤ 4 by omega))
      go_wp2
      go_ret2
      exact ⟨by rw [HB.out]; simp [pieceF], rfl⟩

end Go.Proofs.YtfonfcbibdfplaaGreatDoor

/- Contracts of layer 7. No condition. -/
namespace Go.Proofs.YtfonfcbibdfplaaGreatDoor
open Go.RowKit

theorem strings_HasPrefix (l p : Bs) (w : World) :
    Calls Tryz.prog 65 #[.string (str l), .string (str p)] w fun e w' => e = .returned (.bool (p.isPrefixOf l)) ∧ w = w' :=
  (Tryz.strings_HasPrefix (str l) (str p) w).mono fun _ _ ⟨he, hw⟩ => ⟨by rw [he]; rfl, hw.symm⟩
theorem strings_HasSuffix (l p : Bs) (w : World) (hl : l.length ≤ 1073741824) :
    Calls Tryz.prog 123 #[.string (str l), .string (str p)] w fun e w' => e = .returned (.bool (p.isSuffixOf l)) ∧ w = w' :=
  (Tryz.strings_HasSuffix (str l) (str p) w (by simp; omega)).mono fun _ _ ⟨he, hw⟩ => ⟨by rw [he]; rfl, hw.symm⟩

end Go.Proofs.YtfonfcbibdfplaaGreatDoor

