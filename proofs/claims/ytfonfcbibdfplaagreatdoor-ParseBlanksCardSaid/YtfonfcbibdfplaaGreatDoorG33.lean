import Derived.Test.YtfonfcbibdfplaaGreatDoorG32
/- parse.Parse: one of its ways. No condition. -/
namespace Go.Proofs.YtfonfcbibdfplaaGreatDoor
open Go.RowKit

attribute [local irreducible] Lib.bytesWorld grownCap
set_option maxRecDepth 100000 in
set_option maxHeartbeats 2000000 in
theorem parse_Parse_none_good (l : Bs) (base : Option Url) (q : Option Addr) (w : World) (hG : Gl w) (hb : BaseW w w.heap.size (.pointer q) base) (hl : (l.length : Int) ≤ 65536) (hcl : (clean l).length ≤ 1073741824)
    (hN : ∀ w1, hasScheme l = false → Gl w1 → PSW (w.heap.size + 1) (start l base) w1 → Calls Tryz.prog 36 #[.pointer (some ⟨w.heap.size + 1, 0, none⟩)] w1 fun e w' => e = .returned (.tuple #[]) ∧ PSW (w.heap.size + 1) (plain (start l base)) w' ∧ Below (w.heap.size + 1) w1 w')
    (hq' : (run l base).query.length ≤ 1073741824) (hf' : (run l base).frag.length ≤ 1073741824) (hsc : schemeP (sB l) = none) (hbad : (plain (start l base)).bad = false) :
    Calls Tryz.prog 15 #[.string (str l), .pointer q] w fun e w' => ∃ pv, e = .returned (.tuple #[.agg (urlCells (finish (plain (start l base))).u pv).toArray, .int .i64 0]) ∧ Rd w' pv ((finish (plain (start l base))).u.path.map strV) ∧ Below w.heap.size w w' ∧ (∀ k, pv.ownBlock = some k → w.heap.size ≤ k ∧ k < w'.heap.size) := by
  have hw0 : Below w.heap.size w ((w.alloc (.cells #[.string ⟨#[]⟩, .string ⟨#[]⟩, .string ⟨#[]⟩, .string ⟨#[]⟩, .bool false, .int .i64 0, .bool false, .string ⟨#[]⟩, .slice none 0 0, .bool false, .bool false, .string ⟨#[]⟩, .string ⟨#[]⟩] 25)).alloc (.cells #[.string ⟨#[]⟩, .string ⟨#[]⟩, .string ⟨#[]⟩, .string ⟨#[]⟩, .bool false, .int .i64 (-1), .bool false, .string ⟨#[]⟩, .slice none 0 0, .bool false, .bool false, .string ⟨#[]⟩, .string ⟨#[]⟩, .pointer q, .string ⟨#[]⟩, .string ⟨#[]⟩, .string ⟨#[]⟩, .bool false] 53)) := ((Below.refl w.heap.size w).alloc (Nat.le_refl _) _).alloc (by simp) _
  have hP0 : PSW (w.heap.size + 1) (p0 base) ((w.alloc (.cells #[.string ⟨#[]⟩, .string ⟨#[]⟩, .string ⟨#[]⟩, .string ⟨#[]⟩, .bool false, .int .i64 0, .bool false, .string ⟨#[]⟩, .slice none 0 0, .bool false, .bool false, .string ⟨#[]⟩, .string ⟨#[]⟩] 25)).alloc (.cells #[.string ⟨#[]⟩, .string ⟨#[]⟩, .string ⟨#[]⟩, .string ⟨#[]⟩, .bool false, .int .i64 (-1), .bool false, .string ⟨#[]⟩, .slice none 0 0, .bool false, .bool false, .string ⟨#[]⟩, .string ⟨#[]⟩, .pointer q, .string ⟨#[]⟩, .string ⟨#[]⟩, .string ⟨#[]⟩, .bool false] 53)) := by
    have h := p0_new (w.alloc (.cells #[.string ⟨#[]⟩, .string ⟨#[]⟩, .string ⟨#[]⟩, .string ⟨#[]⟩, .bool false, .int .i64 0, .bool false, .string ⟨#[]⟩, .slice none 0 0, .bool false, .bool false, .string ⟨#[]⟩, .string ⟨#[]⟩] 25)) base (.pointer q) ((hb.below ((Below.refl w.heap.size w).alloc (Nat.le_refl _) _) (Nat.le_refl _)).up (by simp))
    have hs : (w.alloc (.cells #[.string ⟨#[]⟩, .string ⟨#[]⟩, .string ⟨#[]⟩, .string ⟨#[]⟩, .bool false, .int .i64 0, .bool false, .string ⟨#[]⟩, .slice none 0 0, .bool false, .bool false, .string ⟨#[]⟩, .string ⟨#[]⟩] 25)).heap.size = w.heap.size + 1 := by simp
    rw [hs] at h
    exact h
  obtain ⟨W0, hW0⟩ : ∃ W0, W0 = (w.alloc (.cells #[.string ⟨#[]⟩, .string ⟨#[]⟩, .string ⟨#[]⟩, .string ⟨#[]⟩, .bool false, .int .i64 0, .bool false, .string ⟨#[]⟩, .slice none 0 0, .bool false, .bool false, .string ⟨#[]⟩, .string ⟨#[]⟩] 25)).alloc (.cells #[.string ⟨#[]⟩, .string ⟨#[]⟩, .string ⟨#[]⟩, .string ⟨#[]⟩, .bool false, .int .i64 (-1), .bool false, .string ⟨#[]⟩, .slice none 0 0, .bool false, .bool false, .string ⟨#[]⟩, .string ⟨#[]⟩, .pointer q, .string ⟨#[]⟩, .string ⟨#[]⟩, .string ⟨#[]⟩, .bool false] 53) := ⟨_, rfl⟩
  rw [← hW0] at hw0 hP0
  have hG0 := hG.next hw0
  have HC := Lib.hid (parse_Clean l W0 hG0 (by omega))
  have HW0 := Lib.hid hW0
  clear hW0
  have hR0 := res_zero w q W0 HW0.out
  have HR0 := Lib.hid hR0
  clear hR0
  have hc1 : (cut1 35 (clean l)).1.length ≤ (clean l).length := (List.takeWhile_sublist _).length_le
  have hc2 : (sB l).length ≤ (cut1 35 (clean l)).1.length := (List.takeWhile_sublist _).length_le
  have hgl : 7 < w.heap.size + 1 := by have := hG.size; omega
  have hsv : schemeV (sB l) = .tuple #[.string (str []), .string (str (sB l)), .bool false] := by unfold schemeV; rw [hsc]
  have hsh : hasScheme l = false := by unfold hasScheme; unfold sB at hsc; rw [hsc]; rfl
  have hrun : run l base = plain (start l base) := by unfold run; rw [hsh]; rfl
  rw [hrun] at hq' hf'
  have hst := start_none (base := base) hsc
  have HST := Lib.hid hst
  clear hst
  go_enter Tryz.func15, Tryz.ntmps15
  go_wp2_with (first
    | (go_at_call 25; rw [← HW0.out]; refine HC.out.mono ?_; rintro e w1 ⟨rfl, hw1⟩; have hP1 := hP0.next hw1; have hA1 := hw1.mono (Nat.le_of_lt hP0.lt); have hG1 := hG0.next hw1; have HK := Lib.hid (strings_Cut1 (clean l) 35 w1 hG1 hcl))
    | (have hk := HK; clear hk; go_at_call 33; refine HK.out.mono ?_; rintro e w2 ⟨rfl, hw2⟩; clear HK; have hP2 := hP1.next hw2; have z2 := hP2.fz; obtain ⟨pv2, bv2, a0, a1, a2, a3, a4, a5, a6, a7, a8, a9, a10, a11, a12, a13, a14, a15, a16, a17, _, _⟩ := hP2.cells; have hG2 := hG1.next hw2; have hA2 := hA1.trans (hw2.mono (Nat.le_of_lt hP1.lt));
        have hPF := (hP2.put (q := { p0 base with frag := (cut1 35 (clean l)).2.1 }) 16 (.string (str (cut1 35 (clean l)).2.1)) (fun _ _ => rfl) rfl rfl).put (q := pF l base) 10 (.bool (cut1 35 (clean l)).2.2) (fun _ _ => rfl) rfl rfl;
        have hwF := put_below _ _ (put_below _ _ (Below.refl (w.heap.size + 1) w2) 16 (.string (str (cut1 35 (clean l)).2.1))) 10 (.bool (cut1 35 (clean l)).2.2);
        have hGF := hG2.below hwF hgl; have hAF := hA2.trans hwF;
        have HK2 := Lib.hid (strings_Cut1 (cut1 35 (clean l)).1 63 _ hGF (Nat.le_trans hc1 hcl)))
    | (have hk := HK2; clear hk; go_at_call 33; refine HK2.out.mono ?_; rintro e w3 ⟨rfl, hw3⟩; clear HK2 z2; clear a0 a1 a2 a3 a4 a5 a6 a7 a8 a9 a10 a11 a12 a13 a14 a15 a16 a17; have hP3 := hPF.next hw3; have z3 := hP3.fz; obtain ⟨pv3, bv3, b0, b1, b2, b3, b4, b5, b6, b7, b8, b9, b10, b11, b12, b13, b14, b15, b16, b17, _, _⟩ := hP3.cells; have hG3 := hGF.next hw3; have hA3 := hAF.trans (hw3.mono (Nat.le_of_lt hPF.lt));
        have hPQ := (hP3.put (q := { pF l base with query := (cut1 63 (cut1 35 (clean l)).1).2.1 }) 15 (.string (str (cut1 63 (cut1 35 (clean l)).1).2.1)) (fun _ _ => rfl) rfl rfl).put (q := pQ l base) 9 (.bool (cut1 63 (cut1 35 (clean l)).1).2.2) (fun _ _ => rfl) rfl rfl;
        have hwQ := put_below _ _ (put_below _ _ (Below.refl (w.heap.size + 1) w3) 15 (.string (str (cut1 63 (cut1 35 (clean l)).1).2.1))) 9 (.bool (cut1 63 (cut1 35 (clean l)).1).2.2);
        have hGQ := hG3.below hwQ hgl; have hAQ := hA3.trans hwQ;
        have HS := Lib.hid (parse_scheme (sB l) _ hGQ (Nat.le_trans hc2 (Nat.le_trans hc1 hcl))))
    | (go_at_call 34; refine HS.out.mono ?_; rw [hsv]; rintro e w4 ⟨rfl, hw4⟩; clear z3; clear b0 b1 b2 b3 b4 b5 b6 b7 b8 b9 b10 b11 b12 b13 b14 b15 b16 b17; have hP4 := hPQ.next hw4; have z4 := hP4.fz; obtain ⟨pv4, bv4, d0, d1, d2, d3, d4, d5, d6, d7, d8, d9, d10, d11, d12, d13, d14, d15, d16, d17, _, _⟩ := hP4.cells; have hG4 := hGQ.next hw4; have hA4 := hAQ.trans (hw4.mono (Nat.le_of_lt hPQ.lt));
        have hPS : PSW (w.heap.size + 1) (start l base) _ := HST.out ▸ (hP4.put (q := { pQ l base with u := { (pQ l base).u with scheme := [] } }) 0 (.string (str [])) (fun _ _ => rfl) rfl rfl).put (q := { pQ l base with rest := sB l, u := { (pQ l base).u with scheme := [] } }) 14 (.string (str (sB l))) (fun _ _ => rfl) rfl rfl;
        have hwS := put_below _ _ (put_below _ _ (Below.refl (w.heap.size + 1) w4) 0 (.string (str []))) 14 (.string (str (sB l)));
        have hGS := hG4.below hwS hgl; have hAS := hA4.trans hwS;
        have HX := Lib.hid (hN _ hsh hGS hPS))
      | (go_at_call 36; refine HX.out.mono ?_; rintro e w5 ⟨rfl, hP5, hw5⟩; have hA5 := hAS.trans hw5; have hR5 := (hA5.block w.heap.size (Nat.lt_succ_self _)).trans HR0.out; have zr := frozen_of hR5; obtain ⟨r0, r1, r2, r3, r4, r5, r6, r7, r8, r9, r10, r11, r12⟩ := zcells hR5; have HR5 := Lib.hid hR5; clear hR5; clear z4; clear d0 d1 d2 d3 d4 d5 d6 d7 d8 d9 d10 d11 d12 d13 d14 d15 d16 d17; have z5 := hP5.fz; obtain ⟨pv5, bv5, e0, e1, e2, e3, e4, e5, e6, e7, e8, e9, e10, e11, e12, e13, e14, e15, e16, e17, _, _⟩ := hP5.cells; rw [hbad] at e17; have HF := Lib.hid (par_finish _ _ w5 hP5 hq' hf'))
    | (go_at_call 37; refine HF.out.mono ?_; rintro e w6 ⟨rfl, hP6, hw6⟩; have hA6 := hA5.trans hw6; have hR6 := (hw6.block w.heap.size (Nat.lt_succ_self _)).trans HR5.out; have zq := frozen_of hR6; clear zr r0 r1 r2 r3 r4 r5 r6 r7 r8 r9 r10 r11 r12; obtain ⟨q0, q1, q2, q3, q4, q5, q6, q7, q8, q9, q10, q11, q12⟩ := zcells hR6; have HR6 := Lib.hid hR6; clear hR6; clear z5; clear e0 e1 e2 e3 e4 e5 e6 e7 e8 e9 e10 e11 e12 e13 e14 e15 e16 e17; have z6 := hP6.fz; obtain ⟨pv6, bv6, g0, g1, g2, g3, g4, g5, g6, g7, g8, g9, g10, g11, g12, g13, g14, g15, g16, g17, hpv6, _, hlt6⟩ := hP6.cells; have hRd6 := hpv6; obtain ⟨pa6, pc6, rfl, _, _⟩ := hpv6))
  have hlen : ((finish (plain (start l base))).u.path.map strV).length = (finish (plain (start l base))).u.path.length := List.length_map ..
  rw [hlen] at hRd6 hlt6
  generalize (finish (plain (start l base))).u = U at *
  have hfinal := url_put HR6.out (.string (str U.scheme)) (.string (str U.user)) (.string (str U.pass)) (.string (str U.host)) (.bool U.hasHost) (.int .i64 U.port) (.bool U.opq) (.string (str U.text)) (.slice pa6 U.path.length pc6) (.bool U.hasQ) (.bool U.hasF) (.string (str U.query)) (.string (str U.frag))
  have hbel := url_put_below (hw0.trans (hA6.mono (Nat.le_succ _))) (Nat.le_refl w.heap.size) (.string (str U.scheme)) (.string (str U.user)) (.string (str U.pass)) (.string (str U.host)) (.bool U.hasHost) (.int .i64 U.port) (.bool U.opq) (.string (str U.text)) (.slice pa6 U.path.length pc6) (.bool U.hasQ) (.bool U.hasF) (.string (str U.query)) (.string (str U.frag))
  have hrdF := url_put_rd hRd6 (g := w.heap.size) (fun k hk => by have := (hlt6 k hk).1; omega) (.string (str U.scheme)) (.string (str U.user)) (.string (str U.pass)) (.string (str U.host)) (.bool U.hasHost) (.int .i64 U.port) (.bool U.opq) (.string (str U.text)) (.slice pa6 U.path.length pc6) (.bool U.hasQ) (.bool U.hasF) (.string (str U.query)) (.string (str U.frag))
  have hL := loadUrl hfinal rfl
  exact bodyPost_ret (v := .tuple #[.agg (urlCells U (.slice pa6 U.path.length pc6)).toArray, .int .i64 0]) (cell_res rfl rfl rfl hL) rfl ⟨_, rfl, hrdF, hbel, fun k hk => ⟨by have := (hlt6 k hk).1; omega, by have := (hlt6 k hk).2; simpa [World.setCell] using this⟩⟩

end Go.Proofs.YtfonfcbibdfplaaGreatDoor

