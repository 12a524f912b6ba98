import Derived.Test.YtfonfcbibdfplaaGreatDoorG17
/- Contracts of layer 7: Parse, Print. No condition. -/
namespace Go.Proofs.YtfonfcbibdfplaaGreatDoor
open Go.RowKit

theorem parseF_none {k o : Nat} {p : Bs} (r : List Bs) (h : numQ p = none) : parseF k o (p :: r) = none := by
  cases r <;> simp [parseF, h]
theorem parseF_last {k o n : Nat} {p : Bs} (h : numQ p = some n) : parseF k o [p] = if n < 2 ^ (8 * (4 - k)) then some (o + n) else none := by
  simp [parseF, h]
theorem parseF_more {k o n : Nat} {p : Bs} {r : List Bs} (h : numQ p = some n) (hr : r ≠ []) : parseF k o (p :: r) = if n ≤ 255 then parseF (k + 1) (o + n * 2 ^ (8 * (3 - k))) r else none := by
  cases r with
  | nil => exact absurd rfl hr
  | cons _ _ => simp [parseF, h]
/-- What quad.Parse hands back. -/
def addrV (o : Option Nat) : Value := .tuple #[.int .u32 (o.getD 0 : Nat), .bool o.isSome]

set_option maxRecDepth 100000 in
set_option maxHeartbeats 4000000 in
theorem quad_Parse (l : Bs) (w : World) (hG : Gl w) (hl : l.length ≤ 1073741824) :
    Calls Tryz.prog 213 #[.string (str l)] w fun e w' => e = .returned (addrV (parseQ l)) ∧ Below w.heap.size w w' := by
  have HQ := Lib.hid (quad_parts l w hG hl)
  have hmem := fun x (h : x ∈ partsQ l) => partsQ_mem h
  have hpos := partsQ_pos l
  have hplen := partsQ_len l
  by_cases h4 : 4 < (partsQ l).length
  · have HE : Hid (parseQ l = none) := by show parseQ l = none; unfold parseQ; rw [if_pos h4]
    have h4i : (4 : Int) < ((partsQ l).length : Int) := by omega
    have hpl : ((partsQ l).length : Int) ≤ 1073741825 := by omega
    generalize partsQ l = q at *
    clear hmem hpos hplen h4
    go_enter Tryz.func213, Tryz.ntmps213
    go_wp2_with (first
      | (go_at_call 243; refine HQ.out.mono ?_; rintro e w1 ⟨v1, rfl, hrd, hw1⟩; obtain ⟨a, c, rfl, hc, _⟩ := hrd; rw [strV_len]; clear hc))
    go_ret2
    exact ⟨by rw [HE.out]; rfl, hw1⟩
  · have HE : Hid (parseQ l = parseF 0 0 (partsQ l)) := by show parseQ l = _; unfold parseQ; rw [if_neg h4]
    generalize partsQ l = q at *
    have h4i : ((q.length : Nat) : Int) ≤ 4 := by omega
    have HM := Lib.hid hmem
    have hpos1 : (1 : Int) ≤ ((q.length : Nat) : Int) := by omega
    clear hmem hplen h4
    go_enter Tryz.func213, Tryz.ntmps213
    go_wp2_with (first
      | (go_at_call 243; refine HQ.out.mono ?_; rintro e w1 ⟨v1, rfl, hrd, hw1⟩; obtain ⟨b, o, c, rfl, hc, hcell⟩ := hrd.open (by intro e; rw [← List.length_eq_zero_iff, strV_len] at e; omega); rw [strV_len] at hc ⊢; have HC := Lib.hid hcell; clear hcell))
    go_loop [5, 18] (fun x i => ∃ (k o : Nat), k ≤ q.length ∧ i = .int .i64 k ∧ x = .int .u64 o ∧ o < 4294967296 ∧ (k < q.length → o + 2 ^ (8 * (4 - k)) ≤ 4294967296) ∧ parseQ l = parseF k o (q.drop k)) (fun _ i => q.length - (intOf i).toNat)
    case atStart => exact ⟨0, 0, Nat.zero_le _, rfl, rfl, by decide, fun _ => by decide, HE.out⟩
    case round =>
      obtain ⟨k, u, hk, rfl, rfl, hu0, hu, hp⟩ := hrel
      by_cases hlt : k < q.length
      · have hu := hu hlt
        have hx := HC.out k (strV q[k]) (by simp [hlt])
        unfold strV at hx
        have hxl := HM.out _ (List.getElem_mem hlt)
        have hk4 : k = 0 ∨ k = 1 ∨ k = 2 ∨ k = 3 := by omega
        rw [List.drop_eq_getElem_cons hlt] at hp
        have hr : q.drop (k + 1) = [] ↔ q.length = k + 1 := by rw [List.drop_eq_nil_iff]; omega
        generalize hrr : q.drop (k + 1) = r at *
        have HR := Lib.hid hrr
        clear hrr
        generalize q[k] = x at *
        have HN := Lib.hid (fun w => quad_number x w (by omega))
        clear hxl
        cases hn : numQ x with
        | none =>
          rw [parseF_none r hn] at hp
          have HP := Lib.hid hp
          rw [hn] at HN
          have HU := Lib.hid (And.intro hu hr)
          have hnv : numV none = .tuple #[.int .u64 0, .bool false] := rfl
          rw [hnv] at HN
          clear hp hu hu0 hr hn hnv hk4
          go_wp2_with (go_at_call 244; refine (HN.out _).mono ?_; rintro e w' ⟨rfl, rfl⟩)
          go_ret2
          exact ⟨by rw [HP.out]; rfl, hw1⟩
        | some n =>
          have hn4 := numQ_le hn
          rw [hn] at HN
          have hnv : numV (some n) = .tuple #[.int .u64 n, .bool true] := rfl
          rw [hnv] at HN
          clear hnv
          have HN4 := Lib.hid hn4
          clear hn4
          rcases hk4 with rfl | rfl | rfl | rfl
          · rw [Nat.add_zero] at hx
            have hA : 2 ^ (8 * (4 - 0)) = 4294967296 := rfl
            have hB : 2 ^ (8 * (3 - 0)) = 16777216 := rfl
            rw [hA] at hu
            by_cases hlast : q.length = 0 + 1
            · rw [hr.2 hlast, parseF_last hn, hA] at hp
              have hli : (0 : Int) < ((q.length : Nat) : Int) := by omega
              have hlb : ((0 : Int) == ((q.length : Nat) : Int) - 1) = true := by rw [beq_iff_eq]; omega
              have hlc : decide ((0 : Int) = ((q.length : Nat) : Int) - 1) = true := by simp; omega
              obtain ⟨AA, hAA⟩ : ∃ AA : Int, AA = 4294967296 := ⟨_, rfl⟩
              have hwA : IntKind.u64.wrap 4294967296 = AA := by rw [hAA]; rfl
              by_cases hna : n < 4294967296
              · rw [if_pos hna] at hp
                have hni : ¬ AA ≤ (n : Int) := by omega
                have hw5 : IntKind.u64.wrap ((u : Int) + n) = (u : Int) + n := by simp [IntKind.wrap, IntKind.bits, IntKind.signed]; omega
                have HP := Lib.hid (And.intro hp (And.intro hu (And.intro hlast hna)))
                clear hp hu hu0 hr hn hA hB hlast hna hAA
                go_wp2_with (go_at_call 244; refine (HN.out _).mono ?_; rintro e w' ⟨rfl, rfl⟩)
                have h1 := HP.out.2.2.1
                have h2 := HP.out.2.2.2
                have h3 := HP.out.2.1
                refine ⟨⟨1, u + n, by omega, by go_num, by go_num, by omega, fun h => by omega, by rw [HP.out.1, List.drop_of_length_le (by omega)]; rfl⟩, by simp [intOf]; omega⟩
              · rw [if_neg hna] at hp
                have hni : AA ≤ (n : Int) := by omega
                have HP := Lib.hid (And.intro hp (And.intro hu (And.intro hlast hna)))
                clear hp hu hu0 hr hn hA hB hlast hna hAA
                go_wp2_with (go_at_call 244; refine (HN.out _).mono ?_; rintro e w' ⟨rfl, rfl⟩)
                go_ret2
                exact ⟨by rw [HP.out.1]; rfl, hw1⟩
            · have hrn : r ≠ [] := fun e => hlast (hr.1 e)
              rw [parseF_more hn hrn, hB] at hp
              have hli : (1 : Int) < ((q.length : Nat) : Int) := by omega
              have hlb : ((0 : Int) == ((q.length : Nat) : Int) - 1) = false := by rw [beq_eq_false_iff_ne]; omega
              have hlc : decide ((0 : Int) = ((q.length : Nat) : Int) - 1) = false := by simp; omega
              by_cases hna : n ≤ 255
              · rw [if_pos hna] at hp
                have hni : ¬ (255 : Int) < (n : Int) := by omega
                have hw5 : IntKind.u64.wrap ((n : Int) * 16777216) = (n : Int) * 16777216 := by simp [IntKind.wrap, IntKind.bits, IntKind.signed]; omega
                have hw6 : IntKind.u64.wrap ((u : Int) + (n : Int) * 16777216) = (u : Int) + (n : Int) * 16777216 := by simp [IntKind.wrap, IntKind.bits, IntKind.signed]; omega
                have HP := Lib.hid (And.intro hp (And.intro hu (And.intro hlast hna)))
                clear hp hu hu0 hr hn hA hB hlast hna hrn
                go_wp2_with (go_at_call 244; refine (HN.out _).mono ?_; rintro e w' ⟨rfl, rfl⟩)
                have h2 := HP.out.2.2.2
                have h3 := HP.out.2.1
                refine ⟨⟨1, u + n * 16777216, by omega, by go_num, by go_num, by omega, fun _ => ?_, by rw [show List.drop 1 q = r from HR.out]; exact HP.out.1⟩, by simp [intOf]; omega⟩
                show u + n * 16777216 + 16777216 ≤ 4294967296
                omega
              · rw [if_neg hna] at hp
                have hni : (255 : Int) < (n : Int) := by omega
                have HP := Lib.hid (And.intro hp (And.intro hu (And.intro hlast hna)))
                clear hp hu hu0 hr hn hA hB hlast hna hrn
                go_wp2_with (go_at_call 244; refine (HN.out _).mono ?_; rintro e w' ⟨rfl, rfl⟩)
                go_ret2
                exact ⟨by rw [HP.out.1]; rfl, hw1⟩
          · have hA : 2 ^ (8 * (4 - 1)) = 16777216 := rfl
            have hB : 2 ^ (8 * (3 - 1)) = 65536 := rfl
            rw [hA] at hu
            by_cases hlast : q.length = 1 + 1
            · rw [hr.2 hlast, parseF_last hn, hA] at hp
              have hli : (1 : Int) < ((q.length : Nat) : Int) := by omega
              have hlb : ((1 : Int) == ((q.length : Nat) : Int) - 1) = true := by rw [beq_iff_eq]; omega
              have hlc : decide ((1 : Int) = ((q.length : Nat) : Int) - 1) = true := by simp; omega
              obtain ⟨AA, hAA⟩ : ∃ AA : Int, AA = 16777216 := ⟨_, rfl⟩
              have hwA : IntKind.u64.wrap 16777216 = AA := by rw [hAA]; rfl
              by_cases hna : n < 16777216
              · rw [if_pos hna] at hp
                have hni : ¬ AA ≤ (n : Int) := by omega
                have hw5 : IntKind.u64.wrap ((u : Int) + n) = (u : Int) + n := by simp [IntKind.wrap, IntKind.bits, IntKind.signed]; omega
                have HP := Lib.hid (And.intro hp (And.intro hu (And.intro hlast hna)))
                clear hp hu hu0 hr hn hA hB hlast hna hAA
                go_wp2_with (go_at_call 244; refine (HN.out _).mono ?_; rintro e w' ⟨rfl, rfl⟩)
                have h1 := HP.out.2.2.1
                have h2 := HP.out.2.2.2
                have h3 := HP.out.2.1
                refine ⟨⟨2, u + n, by omega, by go_num, by go_num, by omega, fun h => by omega, by rw [HP.out.1, List.drop_of_length_le (by omega)]; rfl⟩, by simp [intOf]; omega⟩
              · rw [if_neg hna] at hp
                have hni : AA ≤ (n : Int) := by omega
                have HP := Lib.hid (And.intro hp (And.intro hu (And.intro hlast hna)))
                clear hp hu hu0 hr hn hA hB hlast hna hAA
                go_wp2_with (go_at_call 244; refine (HN.out _).mono ?_; rintro e w' ⟨rfl, rfl⟩)
                go_ret2
                exact ⟨by rw [HP.out.1]; rfl, hw1⟩
            · have hrn : r ≠ [] := fun e => hlast (hr.1 e)
              rw [parseF_more hn hrn, hB] at hp
              have hli : (2 : Int) < ((q.length : Nat) : Int) := by omega
              have hlb : ((1 : Int) == ((q.length : Nat) : Int) - 1) = false := by rw [beq_eq_false_iff_ne]; omega
              have hlc : decide ((1 : Int) = ((q.length : Nat) : Int) - 1) = false := by simp; omega
              by_cases hna : n ≤ 255
              · rw [if_pos hna] at hp
                have hni : ¬ (255 : Int) < (n : Int) := by omega
                have hw5 : IntKind.u64.wrap ((n : Int) * 65536) = (n : Int) * 65536 := by simp [IntKind.wrap, IntKind.bits, IntKind.signed]; omega
                have hw6 : IntKind.u64.wrap ((u : Int) + (n : Int) * 65536) = (u : Int) + (n : Int) * 65536 := by simp [IntKind.wrap, IntKind.bits, IntKind.signed]; omega
                have HP := Lib.hid (And.intro hp (And.intro hu (And.intro hlast hna)))
                clear hp hu hu0 hr hn hA hB hlast hna hrn
                go_wp2_with (go_at_call 244; refine (HN.out _).mono ?_; rintro e w' ⟨rfl, rfl⟩)
                have h2 := HP.out.2.2.2
                have h3 := HP.out.2.1
                refine ⟨⟨2, u + n * 65536, by omega, by go_num, by go_num, by omega, fun _ => ?_, by rw [show List.drop 2 q = r from HR.out]; exact HP.out.1⟩, by simp [intOf]; omega⟩
                show u + n * 65536 + 65536 ≤ 4294967296
                omega
              · rw [if_neg hna] at hp
                have hni : (255 : Int) < (n : Int) := by omega
                have HP := Lib.hid (And.intro hp (And.intro hu (And.intro hlast hna)))
                clear hp hu hu0 hr hn hA hB hlast hna hrn
                go_wp2_with (go_at_call 244; refine (HN.out _).mono ?_; rintro e w' ⟨rfl, rfl⟩)
                go_ret2
                exact ⟨by rw [HP.out.1]; rfl, hw1⟩
          · have hA : 2 ^ (8 * (4 - 2)) = 65536 := rfl
            have hB : 2 ^ (8 * (3 - 2)) = 256 := rfl
            rw [hA] at hu
            by_cases hlast : q.length = 2 + 1
            · rw [hr.2 hlast, parseF_last hn, hA] at hp
              have hli : (2 : Int) < ((q.length : Nat) : Int) := by omega
              have hlb : ((2 : Int) == ((q.length : Nat) : Int) - 1) = true := by rw [beq_iff_eq]; omega
              have hlc : decide ((2 : Int) = ((q.length : Nat) : Int) - 1) = true := by simp; omega
              obtain ⟨AA, hAA⟩ : ∃ AA : Int, AA = 65536 := ⟨_, rfl⟩
              have hwA : IntKind.u64.wrap 65536 = AA := by rw [hAA]; rfl
              by_cases hna : n < 65536
              · rw [if_pos hna] at hp
                have hni : ¬ AA ≤ (n : Int) := by omega
                have hw5 : IntKind.u64.wrap ((u : Int) + n) = (u : Int) + n := by simp [IntKind.wrap, IntKind.bits, IntKind.signed]; omega
                have HP := Lib.hid (And.intro hp (And.intro hu (And.intro hlast hna)))
                clear hp hu hu0 hr hn hA hB hlast hna hAA
                go_wp2_with (go_at_call 244; refine (HN.out _).mono ?_; rintro e w' ⟨rfl, rfl⟩)
                have h1 := HP.out.2.2.1
                have h2 := HP.out.2.2.2
                have h3 := HP.out.2.1
                refine ⟨⟨3, u + n, by omega, by go_num, by go_num, by omega, fun h => by omega, by rw [HP.out.1, List.drop_of_length_le (by omega)]; rfl⟩, by simp [intOf]; omega⟩
              · rw [if_neg hna] at hp
                have hni : AA ≤ (n : Int) := by omega
                have HP := Lib.hid (And.intro hp (And.intro hu (And.intro hlast hna)))
                clear hp hu hu0 hr hn hA hB hlast hna hAA
                go_wp2_with (go_at_call 244; refine (HN.out _).mono ?_; rintro e w' ⟨rfl, rfl⟩)
                go_ret2
                exact ⟨by rw [HP.out.1]; rfl, hw1⟩
            · have hrn : r ≠ [] := fun e => hlast (hr.1 e)
              rw [parseF_more hn hrn, hB] at hp
              have hli : (3 : Int) < ((q.length : Nat) : Int) := by omega
              have hlb : ((2 : Int) == ((q.length : Nat) : Int) - 1) = false := by rw [beq_eq_false_iff_ne]; omega
              have hlc : decide ((2 : Int) = ((q.length : Nat) : Int) - 1) = false := by simp; omega
              by_cases hna : n ≤ 255
              · rw [if_pos hna] at hp
                have hni : ¬ (255 : Int) < (n : Int) := by omega
                have hw5 : IntKind.u64.wrap ((n : Int) * 256) = (n : Int) * 256 := by simp [IntKind.wrap, IntKind.bits, IntKind.signed]; omega
                have hw6 : IntKind.u64.wrap ((u : Int) + (n : Int) * 256) = (u : Int) + (n : Int) * 256 := by simp [IntKind.wrap, IntKind.bits, IntKind.signed]; omega
                have HP := Lib.hid (And.intro hp (And.intro hu (And.intro hlast hna)))
                clear hp hu hu0 hr hn hA hB hlast hna hrn
                go_wp2_with (go_at_call 244; refine (HN.out _).mono ?_; rintro e w' ⟨rfl, rfl⟩)
                have h2 := HP.out.2.2.2
                have h3 := HP.out.2.1
                refine ⟨⟨3, u + n * 256, by omega, by go_num, by go_num, by omega, fun _ => ?_, by rw [show List.drop 3 q = r from HR.out]; exact HP.out.1⟩, by simp [intOf]; omega⟩
                show u + n * 256 + 256 ≤ 4294967296
                omega
              · rw [if_neg hna] at hp
                have hni : (255 : Int) < (n : Int) := by omega
                have HP := Lib.hid (And.intro hp (And.intro hu (And.intro hlast hna)))
                clear hp hu hu0 hr hn hA hB hlast hna hrn
                go_wp2_with (go_at_call 244; refine (HN.out _).mono ?_; rintro e w' ⟨rfl, rfl⟩)
                go_ret2
                exact ⟨by rw [HP.out.1]; rfl, hw1⟩
          · have hA : 2 ^ (8 * (4 - 3)) = 256 := rfl
            have hB : 2 ^ (8 * (3 - 3)) = 1 := rfl
            rw [hA] at hu
            by_cases hlast : q.length = 3 + 1
            · rw [hr.2 hlast, parseF_last hn, hA] at hp
              have hli : (3 : Int) < ((q.length : Nat) : Int) := by omega
              have hlb : ((3 : Int) == ((q.length : Nat) : Int) - 1) = true := by rw [beq_iff_eq]; omega
              have hlc : decide ((3 : Int) = ((q.length : Nat) : Int) - 1) = true := by simp; omega
              obtain ⟨AA, hAA⟩ : ∃ AA : Int, AA = 256 := ⟨_, rfl⟩
              have hwA : IntKind.u64.wrap 256 = AA := by rw [hAA]; rfl
              by_cases hna : n < 256
              · rw [if_pos hna] at hp
                have hni : ¬ AA ≤ (n : Int) := by omega
                have hw5 : IntKind.u64.wrap ((u : Int) + n) = (u : Int) + n := by simp [IntKind.wrap, IntKind.bits, IntKind.signed]; omega
                have HP := Lib.hid (And.intro hp (And.intro hu (And.intro hlast hna)))
                clear hp hu hu0 hr hn hA hB hlast hna hAA
                go_wp2_with (go_at_call 244; refine (HN.out _).mono ?_; rintro e w' ⟨rfl, rfl⟩)
                have h1 := HP.out.2.2.1
                have h2 := HP.out.2.2.2
                have h3 := HP.out.2.1
                refine ⟨⟨4, u + n, by omega, by go_num, by go_num, by omega, fun h => by omega, by rw [HP.out.1, List.drop_of_length_le (by omega)]; rfl⟩, by simp [intOf]; omega⟩
              · rw [if_neg hna] at hp
                have hni : AA ≤ (n : Int) := by omega
                have HP := Lib.hid (And.intro hp (And.intro hu (And.intro hlast hna)))
                clear hp hu hu0 hr hn hA hB hlast hna hAA
                go_wp2_with (go_at_call 244; refine (HN.out _).mono ?_; rintro e w' ⟨rfl, rfl⟩)
                go_ret2
                exact ⟨by rw [HP.out.1]; rfl, hw1⟩
            · exfalso; omega
      · obtain rfl : k = q.length := by omega
        rw [List.drop_length] at hp
        have hp2 : parseQ l = some u := hp
        have hw5 : IntKind.u32.wrap (u : Int) = (u : Int) := by simp [IntKind.wrap, IntKind.bits, IntKind.signed]; omega
        have HP := Lib.hid hp2
        clear hp hp2 hu hu0
        go_wp2
        go_ret2
        exact ⟨by rw [HP.out]; rfl, hw1⟩
end Go.Proofs.YtfonfcbibdfplaaGreatDoor

