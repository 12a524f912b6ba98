import Derived.StillTailTactics
import Derived.ArgAppend
import Derived.Test.YtfonfcbibdfplaaGreatDoorG11
import Derived.Test.YtfonfcbibdfplaaGreatDoorG09
/- Contracts of layer 10: Begins, Shorten; slices.Clone of texts. No condition. -/
namespace Go.Proofs.YtfonfcbibdfplaaGreatDoor
open Go.RowKit

theorem path_Begins (l : Bs) (w : World) :
    Calls Tryz.prog 116 #[.string (str l)] w fun e w' => e = .returned (.bool (begins l)) ∧ w = w' := by
  match l with
  | [] =>
    go_enter Tryz.func116, Tryz.ntmps116
    go_wp2
    go_ret
    exact ⟨rfl, rfl⟩
  | [_] =>
    go_enter Tryz.func116, Tryz.ntmps116
    go_wp2
    go_ret
    exact ⟨rfl, rfl⟩
  | [a, b] =>
    have HD := Lib.hid (path_Drive [a, b])
    have hb : begins [a, b] = drive [a, b] := by simp [begins]
    rw [hb]
    generalize drive [a, b] = d at *
    cases d
    all_goals
      go_enter Tryz.func116, Tryz.ntmps116
      go_wp2_with (go_at_call 155; refine (HD.out _).mono ?_; rintro e w' ⟨rfl, rfl⟩)
      go_ret
      exact ⟨rfl, rfl⟩
  | a :: b :: c :: t =>
    have HD := Lib.hid (path_Drive [a, b])
    have hb : begins (a :: b :: c :: t) = (drive [a, b] && ([47, 92, 63, 35] : Bs).contains c) := by rw [Bool.eq_iff_iff]; simp [begins, or_assoc]
    have hix := idx_ge [47, 92, 63, 35] c
    rw [hb]
    have HI := Lib.hid (strings_IndexByte [47, 92, 63, 35] c)
    generalize ([47, 92, 63, 35] : Bs).contains c = x at *
    generalize Lib.indexByte [47, 92, 63, 35] c = ix at *
    have h3 : ¬ ((t.length : Int) + 1 + 1 + 1 = 2) := by omega
    have h4 : (((t.length : Int) + 1 + 1 + 1) == 2) = false := by simpa using h3
    generalize drive [a, b] = d at *
    cases d
    · go_enter Tryz.func116, Tryz.ntmps116
      go_wp2_with (go_at_call 155; refine (HD.out _).mono ?_; rintro e w' ⟨rfl, rfl⟩)
      go_ret
      exact ⟨rfl, rfl⟩
    · cases x
      · have hi : ¬ 0 ≤ ix := by rw [hix]; decide
        clear hix
        go_enter Tryz.func116, Tryz.ntmps116
        go_wp2_with (first | (go_at_call 155; refine (HD.out _).mono ?_; rintro e w' ⟨rfl, rfl⟩) | (go_at_call 61; refine (HI.out _).mono ?_; rintro e w' ⟨rfl, rfl⟩))
        go_ret
        exact ⟨ret_bool (by first | (simp; done) | (simp; omega)), rfl⟩
      · have hi : 0 ≤ ix := by rw [hix]
        clear hix
        go_enter Tryz.func116, Tryz.ntmps116
        go_wp2_with (first | (go_at_call 155; refine (HD.out _).mono ?_; rintro e w' ⟨rfl, rfl⟩) | (go_at_call 61; refine (HI.out _).mono ?_; rintro e w' ⟨rfl, rfl⟩))
        go_ret
        exact ⟨ret_bool (by first | (simp; done) | (simp; omega)), rfl⟩

theorem strV_len (l : List Bs) : (l.map strV).length = l.length := List.length_map ..
theorem Rd.take {w : World} {a : Option Addr} {len c n : Nat} {vs : List Value} (h : Rd w (.slice a len c) vs) (hn : n ≤ len) : Rd w (.slice a n c) (vs.take n) := by
  obtain ⟨a', c', he, hc, h⟩ := h
  injection he with e1 e2 e3
  subst e1; subst e2; subst e3
  refine ⟨_, _, by rw [List.length_take, Nat.min_eq_left hn], by rw [List.length_take]; omega, ?_⟩
  rcases h with h | ⟨b, o, hb, h⟩
  · exact .inl ⟨h.1, by rw [h.2, List.take_nil]⟩
  · refine .inr ⟨b, o, hb, fun j u hj => h j u ?_⟩
    rw [List.getElem?_take] at hj
    split at hj
    · exact hj
    · cases hj

theorem slices_Clone (v : Value) (l : List Bs) (w : World) (hr : Rd w v (l.map strV)) (hl : l.length ≤ 1073741824) :
    Calls Tryz.prog 159 #[v] w fun e w' => ∃ v', e = .returned v' ∧ w'.ownsRow w.heap.size 9 1 v' l.length (l.map strV) ∧ Below w.heap.size w w' := by
  obtain ⟨a, c, rfl, hc, h⟩ := hr
  rw [strV_len] at hc ⊢
  rcases h with ⟨rfl, h⟩ | ⟨b, o, rfl, h⟩
  · have h0 : l = [] := by simpa using h
    subst h0
    refine (Tryz.slices_Clone_string_nil 0 c w).mono ?_
    rintro e w' ⟨rfl, rfl⟩
    exact ⟨_, rfl, World.ownsRow_nil _ _ _ _, Below.refl _ _⟩
  · refine (Tryz.slices_Clone_string b o l.length c (l.map str) w (by simp) (by omega) (fun j hj => ?_)).mono ?_
    · rw [List.length_map] at hj
      rw [h j (strV l[j]) (by rw [List.getElem?_map, List.getElem?_eq_getElem hj]; rfl)]
      simp [List.getD, List.getElem?_eq_getElem hj, strV]
    · rintro e w' ⟨v', rfl, h1, _, h3⟩
      refine ⟨v', rfl, ?_, h3⟩
      have e : ((l.map str).take l.length).map Value.string = l.map strV := by
        rw [List.take_of_length_le (by simp), List.map_map]; rfl
      rw [e] at h1
      exact h1

set_option maxRecDepth 100000 in
set_option maxHeartbeats 1000000 in
theorem path_Shorten (file : Bool) (v : Value) (l : List Bs) (w : World) (hr : Rd w v (l.map strV)) (hl : l.length ≤ 1073741824) :
    Calls Tryz.prog 117 #[.bool file, v] w fun e w' => ∃ v', e = .returned v' ∧ w'.ownsRow w.heap.size 9 1 v' (shorten file l).length ((shorten file l).map strV) ∧ Below w.heap.size w w' := by
  have HC := Lib.hid (slices_Clone v l w hr hl)
  obtain ⟨a, c, rfl, hc, h⟩ := hr
  have hr : Rd w (.slice a (l.map strV).length c) (l.map strV) := ⟨a, c, rfl, hc, h⟩
  rw [strV_len] at hr hc HC ⊢
  match l with
  | [] =>
    have hs : shorten file [] = [] := by cases file <;> rfl
    rw [hs]
    clear h hr
    simp only [List.length_nil] at *
    go_enter Tryz.func117, Tryz.ntmps117
    go_wp2_with (go_at_call 159; refine HC.out.mono ?_; rintro e w' ⟨v', rfl, ho, hb⟩)
    go_ret
    exact ⟨_, rfl, ho, hb⟩
  | [x] =>
    obtain ⟨b, o, rfl, hcell⟩ : ∃ b o, a = some ⟨b, o, none⟩ ∧ w.cell? ⟨b, o, none⟩ = some (.string (str x)) := by
      rcases h with h | ⟨b, o, rfl, h⟩
      · exact absurd h.2 (by simp)
      · exact ⟨b, o, rfl, h 0 _ rfl⟩
    have HC0 := Lib.hid (slices_Clone _ [] w (by have := hr.take (n := 0) (by simp); simpa using this) (by simp))
    have HN := Lib.hid (path_Normal x)
    have hc1 : (1 : Int) ≤ (c : Int) := by simp at hc; omega
    have hc2 : (0 : Int) ≤ (c : Int) := by omega
    clear h hr
    simp only [List.length_cons, List.length_nil, Nat.zero_add] at *
    have hs : shorten file [x] = if file && normal x then [x] else [] := by cases file <;> simp [shorten]
    rw [hs]
    cases file
    · go_enter Tryz.func117, Tryz.ntmps117
      go_wp2_with (go_at_call 159; refine HC0.out.mono ?_; rintro e w' ⟨v', rfl, ho, hb⟩)
      go_ret
      exact ⟨_, rfl, ho, hb⟩
    · generalize normal x = nx at *
      cases nx
      · go_enter Tryz.func117, Tryz.ntmps117
        go_wp2_with (first | (go_at_call 157; refine (HN.out _).mono ?_; rintro e w' ⟨rfl, rfl⟩) | (go_at_call 159; refine HC0.out.mono ?_; rintro e w' ⟨v', rfl, ho, hb⟩))
        go_ret
        exact ⟨_, rfl, ho, hb⟩
      · go_enter Tryz.func117, Tryz.ntmps117
        go_wp2_with (first | (go_at_call 157; refine (HN.out _).mono ?_; rintro e w' ⟨rfl, rfl⟩) | (go_at_call 159; refine HC.out.mono ?_; rintro e w' ⟨v', rfl, ho, hb⟩))
        go_ret
        exact ⟨_, rfl, ho, hb⟩
  | x :: y :: t =>
    have hlen : (x :: y :: t).length - 1 = t.length + 1 := by simp
    have htk := hr.take (n := t.length + 1) (by simp)
    have hdl : (x :: y :: t).dropLast = (x :: y :: t).take (t.length + 1) := by rw [List.dropLast_eq_take, hlen]
    have hm : ((x :: y :: t).map strV).take (t.length + 1) = ((x :: y :: t).take (t.length + 1)).map strV := List.map_take.symm
    rw [hm, ← hdl] at htk
    have hl3 : (x :: y :: t).dropLast.length = t.length + 1 := by rw [List.length_dropLast]; simp
    have HC0 := Lib.hid (slices_Clone _ (x :: y :: t).dropLast w htk (by rw [hl3]; simp at hl; omega))
    have hs : shorten file (x :: y :: t) = (x :: y :: t).dropLast := by
      have : ((t.length + 1 + 1 == 1) : Bool) = false := by simp
      simp [shorten]
    rw [hs]
    have hc1 : (t.length : Int) + 1 ≤ (c : Int) := by simp at hc; omega
    have hl1 : (t.length : Int) + 1 + 1 ≤ 1073741824 := by simp at hl; omega
    have hne : ¬ ((t.length : Int) + 1 + 1 = 1) := by omega
    have hne2 : (((t.length : Int) + 1 + 1) == 1) = false := by simpa using hne
    have hne0 : (((t.length : Int) + 1 + 1) == 0) = false := by rw [beq_eq_false_iff_ne]; omega
    clear h hr htk hdl hm hs
    have HCC := HC
    clear HC
    generalize (x :: y :: t).dropLast = dl at *
    simp only [List.length_cons] at *
    cases file
    all_goals
      go_enter Tryz.func117, Tryz.ntmps117
      go_wp2_with (go_at_call 159; refine HC0.out.mono ?_; rintro e w' ⟨v', rfl, ho, hb⟩)
      go_ret
      exact ⟨_, rfl, ho, hb⟩
end Go.Proofs.YtfonfcbibdfplaaGreatDoor

/- parse's finish: contract. No condition. -/
namespace Go.Proofs.YtfonfcbibdfplaaGreatDoor
open Go.RowKit

theorem enc_call (set : Nat) (h6 : set ≤ 6) (l : Bs) (w : World) (n : Nat) (hn : n = w.heap.size) (c : Nat) (hc : l.length ≤ c) (hl : l.length ≤ 1073741824) :
    Calls Tryz.prog 72 #[.int .i64 set, .slice (some ⟨n, 0, none⟩) l.length c] (Lib.bytesWorld w 5 (str l)) fun e w' => e = .returned (.string (str (escape set l))) ∧ Below w.heap.size w w' := by
  subst hn
  have hb := bytesWorld_below w l
  refine (escape_Encode set h6 _ l _ (bytesWorld_rd w l c hc) hl).mono ?_
  rintro e w' ⟨rfl, hw⟩
  exact ⟨rfl, hb.trans (hw.mono hb.size)⟩
theorem set_size (w : World) (a : Addr) (x : Value) : (w.setCell a x).heap.size = w.heap.size := by simp [World.setCell]

attribute [local irreducible] Lib.bytesWorld grownCap
set_option maxRecDepth 100000 in
set_option maxHeartbeats 2000000 in
theorem par_finish (g : Nat) (p : PS) (w : World) (hP : PSW g p w) (hq : p.query.length ≤ 1073741824) (hf : p.frag.length ≤ 1073741824) :
    Calls Tryz.prog 37 #[.pointer (some ⟨g, 0, none⟩)] w fun e w' => e = .returned (.tuple #[]) ∧ PSW g (finish p) w' ∧ Below g w w' := by
  obtain ⟨pv, bv, c0, c1, c2, c3, c4, c5, c6, c7, c8, c9, c10, c11, c12, c13, c14, c15, c16, c17, hpv, hbv⟩ := hP.cells
  have hg := hP.lt
  clear hpv hbv
  have kc := fun w l => conv_bytes w l
  by_cases hqe : p.query = []
  · have hfin : finish p = { p with u := { p.u with frag := escape 1 p.frag } } := by
      unfold finish; rw [hqe]; simp
    rw [hfin]
    rw [hqe] at c15
    go_enter Tryz.func37, Tryz.ntmps37
    go_wp2_with (first
      | (go_at_call 31; refine (url_Special p.u.scheme _).mono ?_; rintro e w1 ⟨rfl, hw1⟩; have hP1 := hP.next hw1; have hlt1 := hP1.lt; obtain ⟨pv1, bv1, d0, d1, d2, d3, d4, d5, d6, d7, d8, d9, d10, d11, d12, d13, d14, d15, d16, d17, _, _⟩ := hP1.cells; rw [hqe] at d15)
      | (go_at_call 72; refine (enc_call 1 (by decide) p.frag _ _ rfl _ (grownCap_ge _ _ _ _) hf).mono ?_; rintro e w2 ⟨rfl, hw2⟩; have hP2 := hP1.next hw2; have z12 := hP2.fz 12; obtain ⟨pv2, bv2, e0, e1, e2, e3, e4, e5, e6, e7, e8, e9, e10, e11, e12, _⟩ := hP2.cells))
    all_goals go_end0
    all_goals exact ⟨rfl, hP2.put 12 _ (fun _ _ => rfl) rfl rfl, put_below _ _ ((hw1.trans (hw2.mono hw1.size)).mono (Nat.le_of_lt hg)) 12 _⟩
  · have hfin : finish p = { p with u := { p.u with query := escape (if special p.u.scheme then 3 else 2) p.query, frag := escape 1 p.frag } } := by
      unfold finish; rw [if_neg (by simpa using hqe)]
    rw [hfin]
    have hql : List.isEmpty p.query = false := by simpa using hqe
    cases hsp : special p.u.scheme with
    | true =>
      simp only [if_true]
      go_enter Tryz.func37, Tryz.ntmps37
      go_wp2_with (first
        | (go_at_call 31; refine (url_Special p.u.scheme _).mono ?_; rw [hsp]; rintro e w1 ⟨rfl, hw1⟩; have hP1 := hP.next hw1; have hlt1 := hP1.lt; obtain ⟨pv1, bv1, d0, d1, d2, d3, d4, d5, d6, d7, d8, d9, d10, d11, d12, d13, d14, d15, d16, d17, _, _⟩ := hP1.cells)
        | (have hq3 := hP3; go_at_call 72; refine (enc_call 1 (by decide) p.frag _ _ (by rw [set_size]) _ (grownCap_ge _ _ _ _) hf).mono ?_; rintro e w4 ⟨rfl, hw4⟩; have hP4 := hP3.next hw4; have z12 := hP4.fz 12; obtain ⟨pv4, bv4, f0, f1, f2, f3, f4, f5, f6, f7, f8, f9, f10, f11, f12, _⟩ := hP4.cells)
        | (go_at_call 72; refine (enc_call 3 (by decide) p.query w1 _ rfl _ (grownCap_ge _ _ _ _) hq).mono ?_; rintro e w2 ⟨rfl, hw2⟩; have hP2 := hP1.next hw2; have z11 := hP2.fz 11; obtain ⟨pv2, bv2, e0, e1, e2, e3, e4, e5, e6, e7, e8, e9, e10, e11, e12, e13, e14, e15, e16, e17, _⟩ := hP2.cells; have hP3 := hP2.put (q := { p with u := { p.u with query := escape 3 p.query } }) 11 (.string (str (escape 3 p.query))) (fun _ _ => rfl) rfl rfl))
      go_end0
      exact ⟨rfl, hP4.put 12 _ (fun _ _ => rfl) rfl rfl, put_below _ _ (((put_below _ _ ((hw1.trans (hw2.mono hw1.size)).mono (Nat.le_of_lt hg)) 11 _)).trans (hw4.mono (by rw [set_size]; exact Nat.le_of_lt hP2.lt))) 12 _⟩
    | false =>
      simp only [Bool.false_eq_true, if_false]
      go_enter Tryz.func37, Tryz.ntmps37
      go_wp2_with (first
        | (go_at_call 31; refine (url_Special p.u.scheme _).mono ?_; rw [hsp]; rintro e w1 ⟨rfl, hw1⟩; have hP1 := hP.next hw1; have hlt1 := hP1.lt; obtain ⟨pv1, bv1, d0, d1, d2, d3, d4, d5, d6, d7, d8, d9, d10, d11, d12, d13, d14, d15, d16, d17, _, _⟩ := hP1.cells)
        | (have hq3 := hP3; go_at_call 72; refine (enc_call 1 (by decide) p.frag _ _ (by rw [set_size]) _ (grownCap_ge _ _ _ _) hf).mono ?_; rintro e w4 ⟨rfl, hw4⟩; have hP4 := hP3.next hw4; have z12 := hP4.fz 12; obtain ⟨pv4, bv4, f0, f1, f2, f3, f4, f5, f6, f7, f8, f9, f10, f11, f12, _⟩ := hP4.cells)
        | (go_at_call 72; refine (enc_call 2 (by decide) p.query w1 _ rfl _ (grownCap_ge _ _ _ _) hq).mono ?_; rintro e w2 ⟨rfl, hw2⟩; have hP2 := hP1.next hw2; have z11 := hP2.fz 11; obtain ⟨pv2, bv2, e0, e1, e2, e3, e4, e5, e6, e7, e8, e9, e10, e11, e12, e13, e14, e15, e16, e17, _⟩ := hP2.cells; have hP3 := hP2.put (q := { p with u := { p.u with query := escape 2 p.query } }) 11 (.string (str (escape 2 p.query))) (fun _ _ => rfl) rfl rfl))
      go_end0
      exact ⟨rfl, hP4.put 12 _ (fun _ _ => rfl) rfl rfl, put_below _ _ (((put_below _ _ ((hw1.trans (hw2.mono hw1.size)).mono (Nat.le_of_lt hg)) 11 _)).trans (hw4.mono (by rw [set_size]; exact Nat.le_of_lt hP2.lt))) 12 _⟩
end Go.Proofs.YtfonfcbibdfplaaGreatDoor

/- An append to a row of texts of the call's own: where the row then lies. No condition. -/
namespace Go.Proofs.YtfonfcbibdfplaaGreatDoor
open Go.RowKit

/-- The row lies where it lay, or in a new block. -/
def Moved (w : World) (v v' : Value) : Prop := ∀ k, v'.ownBlock = some k → v.ownBlock = some k ∨ w.heap.size ≤ k
theorem app_moved {P : Program} {w : World} (base : Nat) (t ty e : TypeId) (i : TypeInfo) (z : Value) (bytes : Nat) (ht : P.underlying t = some (.slice e)) (hi : P.info? e = some i) (hz : i.zero = some z)
    (hsize : i.size = 1) (hby : i.bytes = bytes) (hzs : z.cells.size = 1) (v : Value) (n : Nat) (xs : List Value) (hown : w.ownsRow base e 1 v n xs)
    (a : Addr) (x : Value) (hx : w.cell? a = some x) (h1 : x.oneCell' = true) (h63 : n + 1 ≤ maxLen) (hbytes : (n + 1) * bytes ≤ 140737488355328) (hbase : base ≤ w.heap.size) :
    ∃ v' w', (Builtin.append_ #[t, t] ty #[v, .slice (some a) 1 1]).run P w = .ok v' w' ∧ w'.ownsRow base e 1 v' (n + 1) (xs ++ [x]) ∧ w.grownBy w' v.ownBlock ∧ Moved w v v' := by
  have hnews : ∀ (j : Nat) u, ([x] : List Value)[j]? = some u → w.cell? (a.add j) = some u := by
    intro j u hj
    match j, hj with
    | 0, hj => simp at hj; subst hj; simpa [Addr.add] using hx
  have hone : ∀ u ∈ ([x] : List Value), u.oneCell' = true := by intro u hu; simp at hu; subst hu; exact h1
  obtain ⟨v', w', hr, h2, h3, _⟩ := run_append_own (P := P) w base t ty e i z 1 bytes ht hi hz hsize hby hzs (by decide) v n xs hown a 1 1 [x] rfl hnews hone h63 hbytes hbase
  refine ⟨v', w', hr, h2, h3, ?_⟩
  rcases hown.2 with ⟨rfl, rfl⟩ | ⟨g, cap, cur, rfl, hbg, hg, hnc, hcm, hcs, htake⟩
  · have hx0 : xs = [] := List.eq_nil_of_length_eq_zero (by simpa using hown.1)
    subst hx0
    obtain ⟨v2, w2, hr2, h4, _⟩ := run_append_own (P := P) w w.heap.size t ty e i z 1 bytes ht hi hz hsize hby hzs (by decide) _ 0 [] (World.ownsRow_nil _ _ _ _) a 1 1 [x] rfl hnews hone h63 hbytes (Nat.le_refl _)
    rw [hr] at hr2
    injection hr2 with e1 e2
    subst e1; subst e2
    exact fun k hk => .inr (h4.lt k hk).1
  · by_cases hroom : n + 1 ≤ cap
    · have hr2 := run_append_room (P := P) w t ty e i ht hi g n cap cur hg a 1 1 [x] (by rw [hsize]; rfl) hnews hone hroom (by rw [hsize, hcs, Nat.mul_one, Nat.mul_one]; simpa using hroom)
      rw [hr] at hr2
      injection hr2 with e1 e2
      subst e1
      exact fun k hk => .inl hk
    · obtain ⟨v2, w2, hr2, h4, _⟩ := run_append_arg_grows (P := P) w t ty e i z 1 bytes ht hi hz hsize hby hzs (by decide) ⟨g, 0, none⟩ n cap xs hown.1 (hown.cells (g := g) rfl) a 1 1 [x] rfl hnews (by omega) h63 hbytes
      rw [hr] at hr2
      injection hr2 with e1 e2
      subst e1; subst e2
      exact fun k hk => .inr (h4.lt k hk).1
theorem wpList_append_moved {P : Program} {w : World} {ops : Array Oper} {rest : List Oper} {o : Oper} {a : Act} {Q : Exit → Act → World → Prop} (hgd : o.guard = none) (s x : Operand) (t : TypeId)
    (ho : o.op = .call { callee := .builtin .append, args := #[s, x], argTypes := #[t, t] })
    (base : Nat) (e : TypeId) (i : TypeInfo) (z : Value) (bytes : Nat) (ht : P.underlying t = some (.slice e)) (hi : P.info? e = some i) (hz : i.zero = some z)
    (hsize : i.size = 1) (hby : i.bytes = bytes) (hzs : z.cells.size = 1) (v : Value) (n : Nat) (xs : List Value) (hs : a.eval s = v) (hown : w.ownsRow base e 1 v n xs)
    (ad : Addr) (y : Value) (hx : a.eval x = .slice (some ad) 1 1) (hy : w.cell? ad = some y) (h1 : y.oneCell' = true) (h63 : n + 1 ≤ maxLen) (hbytes : (n + 1) * bytes ≤ 140737488355328) (hbase : base ≤ w.heap.size)
    (h : ∀ v' w', w'.ownsRow base e 1 v' (n + 1) (xs ++ [y]) → w.grownBy w' v.ownBlock → Moved w v v' → wpList P ops Q rest (a.put o.dst v') w') : wpList P ops Q (o :: rest) a w := by
  refine wpList_plain hgd fun K hK => ?_
  obtain ⟨v', w', hr, h2, h3, h4⟩ := app_moved (P := P) (w := w) base t o.type e i z bytes ht hi hz hsize hby hzs v n xs hown ad y hy h1 h63 hbytes hbase
  have hk := hK _ _ (h v' w' h2 h3 h4)
  unfold Oper.wp
  simp [execOp, ho, resolve, invoke, builtin, hs, hx, hr, Result.andThen]
  exact hk
/-- What a call leaves of the blocks that were there: but for one. -/
theorem grown_of_below {w w' : World} (h : Below w.heap.size w w') (row : Option Nat) : w.grownBy w' row := ⟨h.os, h.tape, h.output, h.size, fun k hk _ => h.block k hk⟩
theorem grown_trans {w w1 w2 : World} {row : Option Nat} (h : w.grownBy w1 row) (h2 : w1.grownBy w2 row) : w.grownBy w2 row :=
  ⟨h2.os.trans h.os, h2.tape.trans h.tape, h2.output.trans h.output, Nat.le_trans h.size h2.size, fun k hk hr => (h2.block k (Nat.lt_of_lt_of_le hk h.size) hr).trans (h.block k hk hr)⟩
theorem grown_alloc {w w1 : World} {row : Option Nat} (h : w.grownBy w1 row) (o : Obj) : w.grownBy (w1.alloc o) row :=
  grown_trans h (grown_of_below ((Below.refl _ _).alloc (Nat.le_refl _) _) row)
end Go.Proofs.YtfonfcbibdfplaaGreatDoor

