import Derived.Deep.DeepCutAuto
import Derived.SizedLaws
import Derived.Test.YtfonfcbibdfplaaGreatDoorG45
import Derived.Test.YtfonfcbibdfplaaGreatDoorG35
/- ParseQueries: walk. No condition. -/
namespace Go.Proofs.YtfonfcbibdfplaaGreatDoor
open Go.RowKit

theorem plen_of' {u : Url} {n : Nat} (h : mU u + u.query.length + u.frag.length ≤ n) : u.path.length ≤ n := by
  have hpl : u.path.length ≤ (pathT u.path).length := flat_len _
  unfold mU at h; omega
theorem Ub.setq {w : World} {b : Nat} {u : Url} {pv : Value} (h : Ub w b u pv) (hne : ∀ k, pv.ownBlock = some k → k < b) (q : Bs) :
    Ub ((w.setCell ⟨b, 9, none⟩ (.bool true)).setCell ⟨b, 11, none⟩ (.string (str q))) b { u with hasQ := true, query := q } pv := by
  have hn : ∀ k, pv.ownBlock = some k → k ≠ b := fun k hk => by have := hne k hk; omega
  have hs := set_of (set_of h.box 9 (.bool true)) 11 (.string (str q))
  refine ⟨?_, rd_set (rd_set h.rd hn 9 _) hn 11 _, fun k hk => ?_, ?_⟩
  · rw [hs]; simp
  · have := h.own k hk; simpa [World.setCell] using this
  · have := h.lt; simpa [World.setCell] using this
theorem Ub.other {w : World} {b c : Nat} {u : Url} {pv : Value} (h : Ub w c u pv) (hc : c ≠ b) (hp : ∀ k, pv.ownBlock = some k → k ≠ b) (i j : Nat) (x y : Value) : Ub ((w.setCell ⟨b, i, none⟩ x).setCell ⟨b, j, none⟩ y) c u pv :=
  ⟨(set_other c j y hc).trans ((set_other c i x hc).trans h.box), rd_set (rd_set h.rd hp i x) hp j y, fun k hk => by have := h.own k hk; simpa [World.setCell] using this, by have := h.lt; simpa [World.setCell] using this⟩
theorem setq_wg {w w1 : World} {b : Nat} (h : Wg w w1) (hb : w.heap.size ≤ b) (x y : Value) : Wg w ((w1.setCell ⟨b, 9, none⟩ x).setCell ⟨b, 11, none⟩ y) :=
  have hbw := below_set (below_set h.bw hb 9 x) hb 11 y
  ⟨h.g0.next hbw, hbw, h.g0⟩

set_option maxRecDepth 100000 in
set_option maxHeartbeats 4000000 in
theorem query_long1 (s q : Bs) (w : World) (hG : Gl w) (hl : 1000 < (s.length : Int)) :
    Calls Tryz.prog 13 #[.string (str s), .string (str q)] w fun e w' => e = .returned (.bool true) ∧ Below w.heap.size w w' := by
  have HAW := Lib.hid law12_awake
  have lg := Wg.refl hG
  clear hG
  go_enter Tryz.func13, Tryz.ntmps13
  go_wp2_with (first
    | (go_at_call 23; (with_reducible refine (HAW.out _ lg.gl).mono ?_); rintro e w0 ⟨rfl, hw0⟩; have lg := lg.next hw0))
  go_ret
  exact ⟨rfl, lg.bw⟩
set_option maxRecDepth 100000 in
set_option maxHeartbeats 4000000 in
theorem query_long2 (s q : Bs) (w : World) (hG : Gl w) (hl : ¬ 1000 < (s.length : Int)) (hl2 : 100 < (q.length : Int)) :
    Calls Tryz.prog 13 #[.string (str s), .string (str q)] w fun e w' => e = .returned (.bool true) ∧ Below w.heap.size w w' := by
  have HAW := Lib.hid law12_awake
  have lg := Wg.refl hG
  clear hG
  go_enter Tryz.func13, Tryz.ntmps13
  go_wp2_with (first
    | (go_at_call 23; (with_reducible refine (HAW.out _ lg.gl).mono ?_); rintro e w0 ⟨rfl, hw0⟩; have lg := lg.next hw0))
  go_ret
  exact ⟨rfl, lg.bw⟩
set_option maxRecDepth 100000 in
set_option maxHeartbeats 4000000 in
theorem query_e (s q : Bs) (w : World) (hG : Gl w) (hl : ¬ 1000 < (s.length : Int)) (hl2 : ¬ 100 < (q.length : Int)) (U V : Url) (k1 : Int) (hk1 : k1 ≠ 0) (HP1 : Hid ((∀ c ∈ s, 32 < c ∧ c ≠ 63 ∧ c ≠ 35) → (∀ c ∈ q, 97 ≤ c ∧ c ≤ 122) → ∀ w, Gl w → Calls Tryz.prog 15 #[.string (str s), .pointer none] w fun e w' => ∃ pa pn pc, e = .returned (.tuple #[.agg #[.string (str U.scheme), .string (str U.user), .string (str U.pass), .string (str U.host), .bool U.hasHost, .int .i64 U.port, .bool U.opq, .string (str U.text), .slice pa pn pc, .bool U.hasQ, .bool U.hasF, .string (str U.query), .string (str U.frag)], .int .i64 k1]) ∧ Rd w' (.slice pa pn pc) (U.path.map strV) ∧ Below w.heap.size w w' ∧ (∀ k, (Value.slice pa pn pc).ownBlock = some k → w.heap.size ≤ k ∧ k < w'.heap.size))) (HP2 : Hid ((∀ c ∈ s, 32 < c ∧ c ≠ 63 ∧ c ≠ 35) → (∀ c ∈ q, 97 ≤ c ∧ c ≤ 122) → ∀ w, Gl w → Calls Tryz.prog 15 #[.string (str (s ++ 63 :: q)), .pointer none] w fun e w' => ∃ pa pn pc, e = .returned (.tuple #[.agg #[.string (str V.scheme), .string (str V.user), .string (str V.pass), .string (str V.host), .bool V.hasHost, .int .i64 V.port, .bool V.opq, .string (str V.text), .slice pa pn pc, .bool V.hasQ, .bool V.hasF, .string (str V.query), .string (str V.frag)], .int .i64 k1]) ∧ Rd w' (.slice pa pn pc) (V.path.map strV) ∧ Below w.heap.size w w' ∧ (∀ k, (Value.slice pa pn pc).ownBlock = some k → w.heap.size ≤ k ∧ k < w'.heap.size))) :
    Calls Tryz.prog 13 #[.string (str s), .string (str q)] w fun e w' => e = .returned (.bool true) ∧ Below w.heap.size w w' := by
  have HAW := Lib.hid law12_awake
  have lg := Wg.refl hG
  clear hG
  go_enter Tryz.func13, Tryz.ntmps13
  go_wp2_with (first
    | (go_at_call 23; (with_reducible refine (HAW.out _ lg.gl).mono ?_); rintro e w0 ⟨rfl, hw0⟩; have lg := lg.next hw0))
  go_loopw [26] (fun i wr => ∃ k : Nat, k ≤ s.length ∧ i = .int .i64 k ∧ (∀ c ∈ s.take k, 32 < c ∧ c ≠ 63 ∧ c ≠ 35) ∧ Wg w wr) (fun i _ => s.length - (intOf i).toNat)
  case atStart => exact ⟨0, Nat.zero_le _, rfl, by simp, lg⟩
  case round =>
    clear lg
    obtain ⟨k, hk, rfl, hlet, lg⟩ := hrel
    by_cases hlt : k < s.length
    · have hlti : (k : Int) < (s.length : Int) := by omega
      have hk1 : IntKind.i64.wrap ((k : Int) + 1) = (k : Int) + 1 := IntWalk.i64_in _ (by omega)
      have ht : ∀ c ∈ s.take (k + 1), c ∈ s.take k ∨ c = s[k] := by
        intro c hc
        rw [List.take_succ_eq_append_getElem hlt] at hc
        rcases List.mem_append.1 hc with h | h
        · exact .inl h
        · exact .inr (List.mem_singleton.1 h)
      have HT := Lib.hid (And.intro ht hlet)
      clear ht hlet
      go_wp2
      all_goals first
        | (go_ret; exact ⟨rfl, lg.bw⟩)
        | (refine ⟨⟨k + 1, by omega, by go_num, fun c hc => ?_, lg⟩, by simp [intOf]; omega⟩
           rcases HT.out.1 c hc with h | h
           · exact HT.out.2 c h
           · subst h
             refine ⟨?_, fun e => ?_, fun e => ?_⟩
             · show (32 : UInt8).toNat < s[k].toNat
               have : (32 : UInt8).toNat = 32 := rfl
               omega
             · have : s[k].toNat = 63 := by rw [e]; rfl
               omega
             · have : s[k].toNat = 35 := by rw [e]; rfl
               omega)
    · rw [List.take_of_length_le (by omega)] at hlet
      have hlen : ¬ (k : Int) < (s.length : Int) := by omega
      have HS := Lib.hid hlet
      clear hlet hlt hk
      go_wp2_with fail
      go_loopw [48] (fun i wr => ∃ k : Nat, k ≤ q.length ∧ i = .int .i64 k ∧ (∀ c ∈ q.take k, 97 ≤ c ∧ c ≤ 122) ∧ Wg w wr) (fun i _ => q.length - (intOf i).toNat)
      case atStart => exact ⟨0, Nat.zero_le _, rfl, by simp, lg⟩
      case round =>
        clear lg hlen
        obtain ⟨k, hk, rfl, hlet, lg⟩ := hrel
        by_cases hlt : k < q.length
        · have hlti : (k : Int) < (q.length : Int) := by omega
          have hk1 : IntKind.i64.wrap ((k : Int) + 1) = (k : Int) + 1 := IntWalk.i64_in _ (by omega)
          have ht : ∀ c ∈ q.take (k + 1), c ∈ q.take k ∨ c = q[k] := by
            intro c hc
            rw [List.take_succ_eq_append_getElem hlt] at hc
            rcases List.mem_append.1 hc with h | h
            · exact .inl h
            · exact .inr (List.mem_singleton.1 h)
          have HT := Lib.hid (And.intro ht hlet)
          clear ht hlet
          go_wp2
          all_goals first
            | (go_ret; exact ⟨rfl, lg.bw⟩)
            | (refine ⟨⟨k + 1, by omega, by go_num, fun c hc => ?_, lg⟩, by simp [intOf]; omega⟩
               rcases HT.out.1 c hc with h | h
               · exact HT.out.2 c h
               · subst h
                 constructor
                 · show (97 : UInt8).toNat ≤ q[k].toNat
                   have : (97 : UInt8).toNat = 97 := rfl
                   omega
                 · show q[k].toNat ≤ (122 : UInt8).toNat
                   have : (122 : UInt8).toNat = 122 := rfl
                   omega)
        · rw [List.take_of_length_le (by omega)] at hlet
          have hlen : ¬ (k : Int) < (q.length : Int) := by omega
          have HQ := Lib.hid hlet
          clear hlet hlt hk
          have HP1 := Lib.hid (HP1.out HS.out HQ.out)
          have HP2 := Lib.hid (HP2.out HS.out HQ.out)
          have m1 : ¬ 9223372036854775807 < s.length + 1 := by omega
          have m2 : ¬ 9223372036854775807 < s.length + 1 + q.length := by omega
          have m3 : ¬ 9223372036854775807 < s.length + (1 + q.length) := by omega
          have m4 : ¬ 9223372036854775807 < s.length + (q.length + 1) := by omega
          go_upto_region 20 with (first
            | (have hk := ub; clear hk; go_at_call 15; (with_reducible refine (HP2.out _ lg.gl).mono ?_); rintro e wv ⟨va, vn, vc, rfl, hrv, hwv, hov⟩; have ub := (ub.next hwv).alloc (.cells #[.string (str V.scheme), .string (str V.user), .string (str V.pass), .string (str V.host), .bool V.hasHost, .int .i64 V.port, .bool V.opq, .string (str V.text), .slice va vn vc, .bool V.hasQ, .bool V.hasF, .string (str V.query), .string (str V.frag)] 25); have vb := Ub.new (u := V) hrv hov; have lg := (lg.next hwv).alloc (.cells #[.string (str V.scheme), .string (str V.user), .string (str V.pass), .string (str V.host), .bool V.hasHost, .int .i64 V.port, .bool V.opq, .string (str V.text), .slice va vn vc, .bool V.hasQ, .bool V.hasF, .string (str V.query), .string (str V.frag)] 25); obtain ⟨k0, k1, k2, k3, k4, k5, k6, k7, k8, k9, k10, k11, k12⟩ := cells13 ub.box; have zr := frozen_of ub.box)
            | (go_at_call 15; (with_reducible refine (HP1.out _ lg.gl).mono ?_); rintro e wu ⟨ua, un, uc, rfl, hru, hwu, hou⟩; have hsu := (lg.next hwu).bw.size; have ub := Ub.new (u := U) hru hou; have lg := (lg.next hwu).alloc (.cells #[.string (str U.scheme), .string (str U.user), .string (str U.pass), .string (str U.host), .bool U.hasHost, .int .i64 U.port, .bool U.opq, .string (str U.text), .slice ua un uc, .bool U.hasQ, .bool U.hasF, .string (str U.query), .string (str U.frag)] 25)))
          go_wp2_with fail
          go_ret
          exact ⟨rfl, (setq_wg lg hsu _ _).bw⟩
set_option maxRecDepth 100000 in
set_option maxHeartbeats 4000000 in
theorem query_0 (s q : Bs) (w : World) (hG : Gl w) (hl : ¬ 1000 < (s.length : Int)) (hl2 : ¬ 100 < (q.length : Int)) (U V : Url) (HP1 : Hid ((∀ c ∈ s, 32 < c ∧ c ≠ 63 ∧ c ≠ 35) → (∀ c ∈ q, 97 ≤ c ∧ c ≤ 122) → ∀ w, Gl w → Calls Tryz.prog 15 #[.string (str s), .pointer none] w fun e w' => ∃ pa pn pc, e = .returned (.tuple #[.agg #[.string (str U.scheme), .string (str U.user), .string (str U.pass), .string (str U.host), .bool U.hasHost, .int .i64 U.port, .bool U.opq, .string (str U.text), .slice pa pn pc, .bool U.hasQ, .bool U.hasF, .string (str U.query), .string (str U.frag)], .int .i64 0]) ∧ Rd w' (.slice pa pn pc) (U.path.map strV) ∧ Below w.heap.size w w' ∧ (∀ k, (Value.slice pa pn pc).ownBlock = some k → w.heap.size ≤ k ∧ k < w'.heap.size))) (HP2 : Hid ((∀ c ∈ s, 32 < c ∧ c ≠ 63 ∧ c ≠ 35) → (∀ c ∈ q, 97 ≤ c ∧ c ≤ 122) → ∀ w, Gl w → Calls Tryz.prog 15 #[.string (str (s ++ 63 :: q)), .pointer none] w fun e w' => ∃ pa pn pc, e = .returned (.tuple #[.agg #[.string (str V.scheme), .string (str V.user), .string (str V.pass), .string (str V.host), .bool V.hasHost, .int .i64 V.port, .bool V.opq, .string (str V.text), .slice pa pn pc, .bool V.hasQ, .bool V.hasF, .string (str V.query), .string (str V.frag)], .int .i64 0]) ∧ Rd w' (.slice pa pn pc) (V.path.map strV) ∧ Below w.heap.size w w' ∧ (∀ k, (Value.slice pa pn pc).ownBlock = some k → w.heap.size ≤ k ∧ k < w'.heap.size))) (HV : Hid ((∀ c ∈ s, 32 < c ∧ c ≠ 63 ∧ c ≠ 35) → (∀ c ∈ q, 97 ≤ c ∧ c ≤ 122) → V = { U with hasQ := true, query := q })) (HSM : Hid (∀ va vb w, Rd w va (U.path.map strV) → Rd w vb (U.path.map strV) → Calls Tryz.prog 30 #[.agg #[.string (str U.scheme), .string (str U.user), .string (str U.pass), .string (str U.host), .bool U.hasHost, .int .i64 U.port, .bool U.opq, .string (str U.text), va, .bool true, .bool U.hasF, .string (str q), .string (str U.frag)], .agg #[.string (str U.scheme), .string (str U.user), .string (str U.pass), .string (str U.host), .bool U.hasHost, .int .i64 U.port, .bool U.opq, .string (str U.text), vb, .bool true, .bool U.hasF, .string (str q), .string (str U.frag)]] w fun e w' => e = .returned (.bool true) ∧ Below w.heap.size w w'))  :
    Calls Tryz.prog 13 #[.string (str s), .string (str q)] w fun e w' => e = .returned (.bool true) ∧ Below w.heap.size w w' := by
  have HAW := Lib.hid law12_awake
  have lg := Wg.refl hG
  clear hG
  go_enter Tryz.func13, Tryz.ntmps13
  go_wp2_with (first
    | (go_at_call 23; (with_reducible refine (HAW.out _ lg.gl).mono ?_); rintro e w0 ⟨rfl, hw0⟩; have lg := lg.next hw0))
  go_loopw [26] (fun i wr => ∃ k : Nat, k ≤ s.length ∧ i = .int .i64 k ∧ (∀ c ∈ s.take k, 32 < c ∧ c ≠ 63 ∧ c ≠ 35) ∧ Wg w wr) (fun i _ => s.length - (intOf i).toNat)
  case atStart => exact ⟨0, Nat.zero_le _, rfl, by simp, lg⟩
  case round =>
    clear lg
    obtain ⟨k, hk, rfl, hlet, lg⟩ := hrel
    by_cases hlt : k < s.length
    · have hlti : (k : Int) < (s.length : Int) := by omega
      have hk1 : IntKind.i64.wrap ((k : Int) + 1) = (k : Int) + 1 := IntWalk.i64_in _ (by omega)
      have ht : ∀ c ∈ s.take (k + 1), c ∈ s.take k ∨ c = s[k] := by
        intro c hc
        rw [List.take_succ_eq_append_getElem hlt] at hc
        rcases List.mem_append.1 hc with h | h
        · exact .inl h
        · exact .inr (List.mem_singleton.1 h)
      have HT := Lib.hid (And.intro ht hlet)
      clear ht hlet
      go_wp2
      all_goals first
        | (go_ret; exact ⟨rfl, lg.bw⟩)
        | (refine ⟨⟨k + 1, by omega, by go_num, fun c hc => ?_, lg⟩, by simp [intOf]; omega⟩
           rcases HT.out.1 c hc with h | h
           · exact HT.out.2 c h
           · subst h
             refine ⟨?_, fun e => ?_, fun e => ?_⟩
             · show (32 : UInt8).toNat < s[k].toNat
               have : (32 : UInt8).toNat = 32 := rfl
               omega
             · have : s[k].toNat = 63 := by rw [e]; rfl
               omega
             · have : s[k].toNat = 35 := by rw [e]; rfl
               omega)
    · rw [List.take_of_length_le (by omega)] at hlet
      have hlen : ¬ (k : Int) < (s.length : Int) := by omega
      have HS := Lib.hid hlet
      clear hlet hlt hk
      go_wp2_with fail
      go_loopw [48] (fun i wr => ∃ k : Nat, k ≤ q.length ∧ i = .int .i64 k ∧ (∀ c ∈ q.take k, 97 ≤ c ∧ c ≤ 122) ∧ Wg w wr) (fun i _ => q.length - (intOf i).toNat)
      case atStart => exact ⟨0, Nat.zero_le _, rfl, by simp, lg⟩
      case round =>
        clear lg hlen
        obtain ⟨k, hk, rfl, hlet, lg⟩ := hrel
        by_cases hlt : k < q.length
        · have hlti : (k : Int) < (q.length : Int) := by omega
          have hk1 : IntKind.i64.wrap ((k : Int) + 1) = (k : Int) + 1 := IntWalk.i64_in _ (by omega)
          have ht : ∀ c ∈ q.take (k + 1), c ∈ q.take k ∨ c = q[k] := by
            intro c hc
            rw [List.take_succ_eq_append_getElem hlt] at hc
            rcases List.mem_append.1 hc with h | h
            · exact .inl h
            · exact .inr (List.mem_singleton.1 h)
          have HT := Lib.hid (And.intro ht hlet)
          clear ht hlet
          go_wp2
          all_goals first
            | (go_ret; exact ⟨rfl, lg.bw⟩)
            | (refine ⟨⟨k + 1, by omega, by go_num, fun c hc => ?_, lg⟩, by simp [intOf]; omega⟩
               rcases HT.out.1 c hc with h | h
               · exact HT.out.2 c h
               · subst h
                 constructor
                 · show (97 : UInt8).toNat ≤ q[k].toNat
                   have : (97 : UInt8).toNat = 97 := rfl
                   omega
                 · show q[k].toNat ≤ (122 : UInt8).toNat
                   have : (122 : UInt8).toNat = 122 := rfl
                   omega)
        · rw [List.take_of_length_le (by omega)] at hlet
          have hlen : ¬ (k : Int) < (q.length : Int) := by omega
          have HQ := Lib.hid hlet
          clear hlet hlt hk
          have HP1 := Lib.hid (HP1.out HS.out HQ.out)
          have HP2 := Lib.hid (HP2.out HS.out HQ.out)
          have m1 : ¬ 9223372036854775807 < s.length + 1 := by omega
          have m2 : ¬ 9223372036854775807 < s.length + 1 + q.length := by omega
          have m3 : ¬ 9223372036854775807 < s.length + (1 + q.length) := by omega
          have m4 : ¬ 9223372036854775807 < s.length + (q.length + 1) := by omega
          have hV := HV.out HS.out HQ.out
          subst hV
          go_upto_region 19 with (first
            | (have hk := ub; clear hk; go_at_call 15; (with_reducible refine (HP2.out _ lg.gl).mono ?_); rintro e wv ⟨va, vn, vc, rfl, hrv, hwv, hov⟩; have ub := (ub.next hwv).alloc (.cells #[.string (str { U with hasQ := true, query := q }.scheme), .string (str { U with hasQ := true, query := q }.user), .string (str { U with hasQ := true, query := q }.pass), .string (str { U with hasQ := true, query := q }.host), .bool { U with hasQ := true, query := q }.hasHost, .int .i64 { U with hasQ := true, query := q }.port, .bool { U with hasQ := true, query := q }.opq, .string (str { U with hasQ := true, query := q }.text), .slice va vn vc, .bool { U with hasQ := true, query := q }.hasQ, .bool { U with hasQ := true, query := q }.hasF, .string (str { U with hasQ := true, query := q }.query), .string (str { U with hasQ := true, query := q }.frag)] 25); have vb := Ub.new (u := { U with hasQ := true, query := q }) hrv hov; have lg := (lg.next hwv).alloc (.cells #[.string (str { U with hasQ := true, query := q }.scheme), .string (str { U with hasQ := true, query := q }.user), .string (str { U with hasQ := true, query := q }.pass), .string (str { U with hasQ := true, query := q }.host), .bool { U with hasQ := true, query := q }.hasHost, .int .i64 { U with hasQ := true, query := q }.port, .bool { U with hasQ := true, query := q }.opq, .string (str { U with hasQ := true, query := q }.text), .slice va vn vc, .bool { U with hasQ := true, query := q }.hasQ, .bool { U with hasQ := true, query := q }.hasF, .string (str { U with hasQ := true, query := q }.query), .string (str { U with hasQ := true, query := q }.frag)] 25); obtain ⟨k0, k1, k2, k3, k4, k5, k6, k7, k8, k9, k10, k11, k12⟩ := cells13 ub.box; have zr := frozen_of ub.box)
            | (go_at_call 15; (with_reducible refine (HP1.out _ lg.gl).mono ?_); rintro e wu ⟨ua, un, uc, rfl, hru, hwu, hou⟩; have hsu := (lg.next hwu).bw.size; have ub := Ub.new (u := U) hru hou; have lg := (lg.next hwu).alloc (.cells #[.string (str U.scheme), .string (str U.user), .string (str U.pass), .string (str U.host), .bool U.hasHost, .int .i64 U.port, .bool U.opq, .string (str U.text), .slice ua un uc, .bool U.hasQ, .bool U.hasF, .string (str U.query), .string (str U.frag)] 25)))
          go_cut [] (fun wx => Wg w wx ∧ (∃ pv, Ub wx wu.heap.size { U with hasQ := true, query := q } pv) ∧ (∃ pv, Ub wx wv.heap.size { U with hasQ := true, query := q } pv))
          case first =>
            go_wp2_with fail
            go_meet
            have hlu := (Ub.new (u := U) hru hou).lt
            have hne : wu.heap.size < wv.heap.size := Nat.lt_of_lt_of_le hlu hwv.size
            exact ⟨setq_wg lg hsu _ _, ⟨_, ub.setq (fun k hk => (hou k hk).2) q⟩, ⟨_, vb.other (by omega) (fun k hk => by have := (hov k hk).1; omega) 9 11 _ _⟩⟩
          case rest =>
            obtain ⟨lg, ⟨pu, ub⟩, ⟨pv, vb⟩⟩ := hcut
            obtain ⟨k0, k1, k2, k3, k4, k5, k6, k7, k8, k9, k10, k11, k12⟩ := cells13 ub.box
            obtain ⟨j0, j1, j2, j3, j4, j5, j6, j7, j8, j9, j10, j11, j12⟩ := cells13 vb.box
            go_wp2_with (first
              | (go_at_call 30; (with_reducible refine (HSM.out _ _ _ ub.rd vb.rd).mono ?_); rintro e wy ⟨rfl, hwy⟩; have lg := lg.next hwy))
            go_ret
            exact ⟨rfl, lg.bw⟩
theorem law12_ParseQueries (s q : Bs) (w : World) (hG : Gl w) :
    Calls Tryz.prog 13 #[.string (str s), .string (str q)] w fun e w' => e = .returned (.bool true) ∧ Below w.heap.size w w' := by
  by_cases hl : 1000 < (s.length : Int)
  · exact query_long1 s q w hG hl
  · by_cases hl2 : 100 < (q.length : Int)
    · exact query_long2 s q w hG hl hl2
    · have hlen : s.length + 1 + q.length ≤ 65536 := by omega
      obtain ⟨U, k1, h1⟩ : ∃ U k, parse s none = (U, k) := ⟨_, _, rfl⟩
      obtain ⟨V, k2, h2⟩ : ∃ U k, parse (s ++ 63 :: q) none = (U, k) := ⟨_, _, rfl⟩
      have hk : (∀ c ∈ s, 32 < c ∧ c ≠ 63 ∧ c ≠ 35) → (∀ c ∈ q, 97 ≤ c ∧ c ≤ 122) → k2 = k1 := fun hs hq => by
        have := (parse_query hs hq hlen).1
        rw [h1, h2] at this; exact this
      have HP1 := Lib.hid (fun (_ : ∀ c ∈ s, 32 < c ∧ c ≠ 63 ∧ c ≠ 35) (_ : ∀ c ∈ q, 97 ≤ c ∧ c ≤ 122) w h => parse_law s none none w U k1 h1 h rfl (fun _ hb => by cases hb))
      have HP2 := Lib.hid (fun (hs : ∀ c ∈ s, 32 < c ∧ c ≠ 63 ∧ c ≠ 35) (hq : ∀ c ∈ q, 97 ≤ c ∧ c ≤ 122) w h => parse_law (s ++ 63 :: q) none none w V k1 (by rw [h2, hk hs hq]) h rfl (fun _ hb => by cases hb))
      by_cases e : k1 = 0
      · subst e
        have HV : Hid ((∀ c ∈ s, 32 < c ∧ c ≠ 63 ∧ c ≠ 35) → (∀ c ∈ q, 97 ≤ c ∧ c ≤ 122) → V = { U with hasQ := true, query := q }) := Lib.hid (fun hs hq => by
          have := (parse_query hs hq hlen).2 (by rw [h1])
          rw [h1, h2] at this; exact this)
        have hU0 : (parse s none).2 = 0 := by rw [h1]
        have hpl : U.path.length ≤ 1073741824 := by
          have hm := m_parse hU0
          rw [h1] at hm
          have hm : mU U + U.query.length + U.frag.length ≤ _ := hm
          have e1 : mB none = 0 := rfl
          have e2 : qB none = 0 := rfl
          have := plen_of' hm
          omega
        have HSM := Lib.hid (fun va vb w ha hb => sameU_self ({ U with hasQ := true, query := q } : Url) ▸ url_Same { U with hasQ := true, query := q } { U with hasQ := true, query := q } va vb w ha hb hpl)
        exact query_0 s q w hG hl hl2 U V HP1 HP2 HV HSM
      · exact query_e s q w hG hl hl2 U V (k1 : Int) (by omega) HP1 HP2
end Go.Proofs.YtfonfcbibdfplaaGreatDoor

/- ParseQueries: its row. No condition beyond the row's own. -/
namespace Go.Proofs.YtfonfcbibdfplaaGreatDoor
open Go Go.ChangeShapes Go.WideShapes Go.ChangeAt Go.RowKit Go.ChangeMaps

set_option maxRecDepth 100000 in
theorem parseQueries_lifted (os : Os) (started : os.Started) (H : Type) (enc : TypeId × Value → H) :
    ReturnsInHanded {} Tryz.checked os 13 .any (fun w args => (Rows.parseQueriesSpec.pre enc Tryz.prog Tryz.f13 Rows.parseQueriesRow.domain false w args ∧ laidMetH Tryz.prog Rows.parseQueriesRow.laid w) ∧ sizedMet enc Tryz.prog Tryz.f13 (OpenSpec.ofChange Rows.parseQueriesSpec) false w args)
      (Rows.parseQueriesSpec.post enc Tryz.prog Tryz.f13 false true false false) := by
  refine wrap_laid (C := Tryz.checked) (X := fun w _ => laidMetH Tryz.prog Rows.parseQueriesRow.laid w) (fun _ _ _ hh h => h.of_heap hh) own started (by kernel_rfl) Tryz.func13
    (ChangeSpec.witness_shaped (enc := enc) (C := Tryz.checked) (os := os) (X := fun w _ => laidMetH Tryz.prog Rows.parseQueriesRow.laid w) false (World.laidAll Tryz.prog os Rows.parseQueriesRow.laid) #[.string ⟨#[]⟩, .string ⟨#[]⟩] 8 (World.laidAll_os _ _ _)
      (World.shaped_of_ZipB (by kernel_rfl) (by kernel_rfl)) (by kernel_rfl) (by kernel_rfl) (by kernel_rfl)
      (by rw [MakeChecks.laidMetH_plain _ _ _ (by kernel_rfl)]; exact laidMet_laidAll _ (by kernel_rfl) (by kernel_rfl))) ?_
  intro W base args ds gs before hval0 hW _ hZ hL hsh _
  have hval : ∀ (j : Nat) t v, Tryz.f13.params[j]? = some t → args[j]? = some v → Value.okWide Tryz.prog W .any base t v := hval0
  have hW' := hW
  obtain ⟨p, q, hA0, hV, rfl, hfz, hnd⟩ := hW
  have hA : DataW.TrodAll enc Tryz.prog W 0 (fun _ => true) true Tryz.f13.params.toList args.toList ds p := hA0
  rw [Tryz.params13] at hA hval
  obtain ⟨v0, vs0, d0, ds0, p0, q0, hargs, rfl, rfl, h0, r0⟩ := trodAll_cons hA
  obtain ⟨v1, vs1, d1, ds1, p1, q1, rfl, rfl, rfl, h1, r1⟩ := trodAll_cons r0
  obtain ⟨rfl, rfl, rfl⟩ := trodAll_nil r1
  obtain rfl : args = #[v0, v1] := by cases args; simp_all
  obtain ⟨rfl, rfl⟩ := trodVars_none hV
  obtain ⟨a0, rfl, rfl, rfl, w0⟩ := open_string Tryz.underlying9 (hval 0 9 v0 rfl rfl) h0
  obtain ⟨a1, rfl, rfl, rfl, w1⟩ := open_string Tryz.underlying9 (hval 1 9 v1 rfl rfl) h1
  clear hZ hA0 hval0
  simp only [List.append_nil] at hW'
  obtain ⟨l0, rfl⟩ := str_of a0
  obtain ⟨l1, rfl⟩ := str_of a1
  refine (law12_ParseQueries l0 l1 W (gl_of hL hsh)).mono fun e W' ⟨he, hb⟩ => ?_
  subst he
  exact ⟨_, rfl, post_below (pa := []) (pv := []) hW' (fun _ _ _ => (trodAll_cons_mk (shut_bool Tryz.underlying4 _) trodAll_mk0)) (fun sp _ => (trodAll_cons_mk (shut_string Tryz.underlying9 w0) (trodAll_cons_mk (shut_string Tryz.underlying9 w1) trodAll_mk0))) (fun _ _ => rfl) rfl hb⟩

set_option maxRecDepth 100000 in
set_option maxHeartbeats 8000000 in
theorem parseQueries_closed : joinedFacts Tryz.checked.prog 13 Tryz.f13 Rows.parseQueriesSpec Rows.parseQueriesRow = true := by
  unfold joinedFacts
  repeat' (with_reducible refine and2 ?_ ?_)
  all_goals (as_aux_lemma => kernel_rfl)
set_option maxHeartbeats 4000000 in
theorem parseQueries_holds : Rows.ParseQueriesSaid :=
  OpenClaim.holds_of_wide 13 Tryz.f13 rfl rfl rfl rfl rfl rfl rfl ⟨rfl, rfl, rfl, rfl, rfl⟩ rfl rfl rfl rfl rfl (by as_aux_lemma => kernel_rfl) Tryz.func13 parseQueries_closed
    (of_decide_eq_true (by as_aux_lemma => kernel_rfl)) (by as_aux_lemma => unfold Func.isWrapper; first | (rw [if_pos (by decide +kernel)]; kernel_rfl) | (rw [if_neg (by decide +kernel)]; exact ⟨rfl, rfl⟩))
    (fun os started H enc _ => parseQueries_lifted os started H enc)
end Go.Proofs.YtfonfcbibdfplaaGreatDoor

