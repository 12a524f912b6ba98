import Derived.Lib.Split
import Derived.Lib.SplitLaws
import Derived.Lib.CountLaws
import Derived.Lib.ReplaceLaws
import Derived.Lib.Join
import Derived.Lib.LastIndexByte
import Derived.Test.YtfonfcbibdfplaaGreatDoorG12
import Derived.Test.YtfonfcbibdfplaaGreatDoorG09
/- Contracts of layer 10: step, Walk. No condition. -/
namespace Go.Proofs.YtfonfcbibdfplaaGreatDoor
open Go.RowKit

/-- A row of texts of the call's own. -/
def Own (w : World) (B : Nat) (v : Value) (p : List Bs) : Prop := w.ownsRow B 9 1 v p.length (p.map strV)
theorem info_str2 : (Tryz.prog.info? 9).map (fun i => (i.zero, i.size, i.bytes)) = some (some (.string ⟨#[]⟩), 1, 16) := by kernel_rfl
theorem moved_new {w w' : World} {B E s n : Nat} {v v' : Value} {xs : List Value} (h : w'.ownsRow B E s v' n xs) (hB : w.heap.size ≤ B) : Moved w v v' := fun k hk => .inr (Nat.le_trans hB (h.lt k hk).1)
theorem moved_up {w w1 : World} {v v' : Value} (o : Obj) (h : Moved (w1.alloc o) v v') (hs : w.heap.size ≤ w1.heap.size) : Moved w v v' := fun k hk => (h k hk).elim .inl fun h2 => .inr (by simp at h2; omega)
theorem own_base {w : World} {B B' E s n : Nat} {v : Value} {xs : List Value} (h : w.ownsRow B' E s v n xs) (hB : B ≤ B') : w.ownsRow B E s v n xs := by
  obtain ⟨h1, h | ⟨g, cap, cur, h2, h3, h4⟩⟩ := h
  · exact ⟨h1, .inl h⟩
  · exact ⟨h1, .inr ⟨g, cap, cur, h2, Nat.le_trans hB h3, h4⟩⟩
theorem own_val {w : World} {B E s n : Nat} {v : Value} {xs : List Value} (h : w.ownsRow B E s v n xs) : ∃ a c, v = .slice a n c := by
  obtain ⟨_, ⟨rfl, rfl⟩ | ⟨g, cap, cur, rfl, _⟩⟩ := h
  · exact ⟨_, _, rfl⟩
  · exact ⟨_, _, rfl⟩
theorem Own.next {w w' : World} {B : Nat} {v : Value} {p : List Bs} (h : Own w B v p) (hb : Below w.heap.size w w') : Own w' B v p := owns_next h hb
theorem Own.rd {w : World} {B : Nat} {v : Value} {p : List Bs} (h : Own w B v p) : Rd w v (p.map strV) := owns_rd h
/-- What an append of one text leaves. -/
theorem own_app {w : World} {B : Nat} {v v' : Value} {p : List Bs} {x : Bs} (h : w.ownsRow B 9 1 v' (p.length + 1) (p.map strV ++ [.string (str x)])) : Own w B v' (p ++ [x]) := by
  have _ := v
  unfold Own
  rw [List.length_append, List.map_append]
  exact h

set_option maxRecDepth 100000 in
set_option maxHeartbeats 1000000 in
theorem step_double (file : Bool) (v : Value) (p : List Bs) (s : Bs) (B : Nat) (w : World) (hB : B ≤ w.heap.size) (ho : Own w B v p) (hp : p.length ≤ 1000000000) (hs : s.length ≤ 1073741824) (hd : double s = true) :
    Calls Tryz.prog 187 #[.bool file, v, .string (str s), .bool false] w fun e w' => ∃ v', e = .returned v' ∧ Own w' B v' (shorten file p) ∧ Below B w w' ∧ w.grownBy w' v.ownBlock ∧ Moved w v v' := by
  have HD := Lib.hid (path_Double s w hs)
  have HS := Lib.hid (fun w (h : Own w B v p) => path_Shorten file v p w h.rd (by omega))
  obtain ⟨a, c, rfl⟩ := own_val ho
  have HO := Lib.hid ho
  clear ho
  go_enter Tryz.func187, Tryz.ntmps187
  go_wp2_with (first
    | (go_at_call 218; refine HD.out.mono ?_; rw [hd]; rintro e w1 ⟨rfl, hw1⟩)
    | (go_at_call 117; refine (HS.out _ (HO.out.next hw1)).mono ?_; rintro e w2 ⟨v', rfl, ho2, hw2⟩))
  go_ret
  exact ⟨_, rfl, own_base ho2 (Nat.le_trans hB hw1.size), (hw1.trans (hw2.mono hw1.size)).mono hB, grown_of_below (hw1.trans (hw2.mono hw1.size)) _, moved_new ho2 hw1.size⟩

set_option maxRecDepth 100000 in
set_option maxHeartbeats 1000000 in
theorem step_double_last (file : Bool) (v : Value) (p : List Bs) (s : Bs) (B : Nat) (w : World) (hB : B ≤ w.heap.size) (ho : Own w B v p) (hp : p.length ≤ 1000000000) (hs : s.length ≤ 1073741824) (hd : double s = true) :
    Calls Tryz.prog 187 #[.bool file, v, .string (str s), .bool true] w fun e w' => ∃ v', e = .returned v' ∧ Own w' B v' (shorten file p ++ [[]]) ∧ Below B w w' ∧ w.grownBy w' v.ownBlock ∧ Moved w v v' := by
  obtain ⟨i0, hi, hz0, hz1, hz2⟩ := info_parts info_str2
  have HD := Lib.hid (path_Double s w hs)
  have HS := Lib.hid (fun w (h : Own w B v p) => path_Shorten file v p w h.rd (by omega))
  have hsl : (shorten file p).length ≤ p.length := by unfold shorten; split <;> simp
  generalize shorten file p = q at *
  obtain ⟨a, c, rfl⟩ := own_val ho
  have HO := Lib.hid ho
  clear ho
  go_enter Tryz.func187, Tryz.ntmps187
  go_wp2_with (first
    | (go_at_call 218; refine HD.out.mono ?_; rw [hd]; rintro e w1 ⟨rfl, hw1⟩)
    | (go_at_call 117; refine (HS.out _ (HO.out.next hw1)).mono ?_; rintro e w2 ⟨v', rfl, ho2, hw2⟩)
    | (at_builtin; refine wpList_append_moved rfl _ _ 23 rfl w1.heap.size 9 i0 (.string ⟨#[]⟩) 16 Tryz.underlying23 hi hz0 hz1 hz2 rfl _ _ _ rfl (World.ownsRow.alloc ho2 _) ⟨w2.heap.size, 0, none⟩ (.string ⟨#[]⟩) rfl ?c1 rfl ?c3 ?c4 ?c5 ?_))
  case c1 => simp
  case c3 => unfold maxLen; omega
  case c4 => omega
  case c5 => have := hw2.size; simp; omega
  intro v2 w3 ho3 hg3 hm3
  have hb3 := app_below hw2 hw2.size ho2 _ hg3
  go_wp2
  go_ret
  exact ⟨_, rfl, own_app (v := v2) (own_base ho3 (Nat.le_trans hB hw1.size)), (hw1.trans (hb3.mono hw1.size)).mono hB, grown_of_below (hw1.trans (hb3.mono hw1.size)) _, moved_new ho3 hw1.size⟩

set_option maxRecDepth 100000 in
set_option maxHeartbeats 1000000 in
theorem step_single (file : Bool) (v : Value) (p : List Bs) (s : Bs) (B : Nat) (w : World) (hB : B ≤ w.heap.size) (ho : Own w B v p) (hs : s.length ≤ 1073741824) (hd : double s = false) (h1 : single s = true) :
    Calls Tryz.prog 187 #[.bool file, v, .string (str s), .bool false] w fun e w' => ∃ v', e = .returned v' ∧ Own w' B v' p ∧ Below B w w' ∧ w.grownBy w' v.ownBlock ∧ Moved w v v' := by
  have HD := Lib.hid (path_Double s w hs)
  have HS := Lib.hid (fun w => path_Single s w hs)
  obtain ⟨a, c, rfl⟩ := own_val ho
  have HO := Lib.hid ho
  clear ho
  go_enter Tryz.func187, Tryz.ntmps187
  go_wp2_with (first
    | (go_at_call 218; refine HD.out.mono ?_; rw [hd]; rintro e w1 ⟨rfl, hw1⟩)
    | (go_at_call 219; refine (HS.out _).mono ?_; rw [h1]; rintro e w2 ⟨rfl, hw2⟩))
  go_ret
  exact ⟨_, rfl, (HO.out.next hw1).next hw2, (hw1.trans (hw2.mono hw1.size)).mono hB, grown_of_below (hw1.trans (hw2.mono hw1.size)) _, fun _ hk => .inl hk⟩

set_option maxRecDepth 100000 in
set_option maxHeartbeats 1000000 in
theorem step_single_last (file : Bool) (v : Value) (p : List Bs) (s : Bs) (B : Nat) (w : World) (hB : B ≤ w.heap.size) (ho : Own w B v p) (hp : p.length ≤ 1000000000) (hs : s.length ≤ 1073741824) (hd : double s = false) (h1 : single s = true) :
    Calls Tryz.prog 187 #[.bool file, v, .string (str s), .bool true] w fun e w' => ∃ v', e = .returned v' ∧ Own w' B v' (p ++ [[]]) ∧ Below B w w' ∧ w.grownBy w' v.ownBlock ∧ Moved w v v' := by
  obtain ⟨i0, hi, hz0, hz1, hz2⟩ := info_parts info_str2
  have HD := Lib.hid (path_Double s w hs)
  have HS := Lib.hid (fun w => path_Single s w hs)
  obtain ⟨a, c, rfl⟩ := own_val ho
  have HO := Lib.hid ho
  clear ho
  go_enter Tryz.func187, Tryz.ntmps187
  go_wp2_with (first
    | (go_at_call 218; refine HD.out.mono ?_; rw [hd]; rintro e w1 ⟨rfl, hw1⟩)
    | (go_at_call 219; refine (HS.out _).mono ?_; rw [h1]; rintro e w2 ⟨rfl, hw2⟩)
    | (at_builtin; refine wpList_append_moved rfl _ _ 23 rfl B 9 i0 (.string ⟨#[]⟩) 16 Tryz.underlying23 hi hz0 hz1 hz2 rfl _ _ _ rfl (World.ownsRow.alloc ((HO.out.next hw1).next hw2) _) ⟨w2.heap.size, 0, none⟩ (.string ⟨#[]⟩) rfl ?c1 rfl ?c3 ?c4 ?c5 ?_))
  case c1 => simp
  case c3 => unfold maxLen; omega
  case c4 => omega
  case c5 => have := hw2.size; have := hw1.size; simp; omega
  intro v2 w3 ho3 hg3 hm3
  have hb3 := app_below ((hw1.trans (hw2.mono hw1.size)).mono hB) (Nat.le_trans hB (Nat.le_trans hw1.size hw2.size)) ((HO.out.next hw1).next hw2) _ hg3
  go_wp2
  go_ret
  exact ⟨_, rfl, own_app (v := v2) ho3, hb3, grown_trans (grown_alloc (grown_of_below (hw1.trans (hw2.mono hw1.size)) _) _) hg3, moved_up _ hm3 (Nat.le_trans hw1.size hw2.size)⟩

attribute [local irreducible] Lib.bytesWorld grownCap
set_option maxRecDepth 100000 in
set_option maxHeartbeats 2000000 in
/-- A segment that is neither: where no drive is turned, or where one is ('x': the text that is escaped). -/
theorem step_other (file last : Bool) (v : Value) (p : List Bs) (s : Bs) (B : Nat) (w : World) (hB : B ≤ w.heap.size) (ho : Own w B v p) (hp : p.length ≤ 1000000000) (hs : s.length ≤ 1073741824) (hd : double s = false) (h1 : single s = false) :
    Calls Tryz.prog 187 #[.bool file, v, .string (str s), .bool last] w fun e w' => ∃ v', e = .returned v' ∧ Own w' B v' (p ++ [escape 4 (if file && p.isEmpty && drive s then s.take 1 ++ [58] else s)]) ∧ Below B w w' ∧ w.grownBy w' v.ownBlock ∧ Moved w v v' := by
  obtain ⟨i0, hi, hz0, hz1, hz2⟩ := info_parts info_str2
  have HD := Lib.hid (path_Double s w hs)
  have HS := Lib.hid (fun w => path_Single s w hs)
  have HV := Lib.hid (fun w => path_Drive s w)
  have kc := fun w l => conv_bytes w l
  obtain ⟨a, c, rfl⟩ := own_val ho
  have HO := Lib.hid ho
  clear ho
  cases file
  · have hx : (if (false && p.isEmpty && drive s) = true then s.take 1 ++ [58] else s) = s := by simp
    rw [hx]
    go_enter Tryz.func187, Tryz.ntmps187
    go_wp2_with (first
      | (go_at_call 218; refine HD.out.mono ?_; rw [hd]; rintro e w1 ⟨rfl, hw1⟩)
      | (go_at_call 219; refine (HS.out _).mono ?_; rw [h1]; rintro e w2 ⟨rfl, hw2⟩)
      | (go_at_call 72; refine (enc_call 4 (by decide) s _ _ rfl _ (grownCap_ge _ _ _ _) hs).mono ?_; rintro e w3 ⟨rfl, hw3⟩)
      | (at_builtin; refine wpList_append_moved rfl _ _ 23 rfl B 9 i0 (.string ⟨#[]⟩) 16 Tryz.underlying23 hi hz0 hz1 hz2 rfl _ _ _ rfl (World.ownsRow.alloc (((HO.out.next hw1).next hw2).next hw3) _) ⟨w3.heap.size, 0, none⟩ (.string (str (escape 4 s))) rfl ?c1 rfl ?c3 ?c4 ?c5 ?_))
    case c1 => simp
    case c3 => unfold maxLen; omega
    case c4 => omega
    case c5 => have := hw2.size; have := hw1.size; have := hw3.size; simp; omega
    intro v2 w4 ho4 hg4 hm4
    have hb3 := app_below (((hw1.trans (hw2.mono hw1.size)).trans (hw3.mono (Nat.le_trans hw1.size hw2.size))).mono hB) (Nat.le_trans hB (Nat.le_trans (Nat.le_trans hw1.size hw2.size) hw3.size)) (((HO.out.next hw1).next hw2).next hw3) _ hg4
    go_wp2
    go_ret
    exact ⟨_, rfl, own_app (v := v2) ho4, hb3, grown_trans (grown_alloc (grown_of_below ((hw1.trans (hw2.mono hw1.size)).trans (hw3.mono (Nat.le_trans hw1.size hw2.size))) _) _) hg4, moved_up _ hm4 (Nat.le_trans (Nat.le_trans hw1.size hw2.size) hw3.size)⟩
  · by_cases h0 : p = []
    · subst h0
      simp only [List.length_nil] at *
      cases hv : drive s with
      | false =>
        rw [hv] at HV
        have hx : (if (true && ([] : List Bs).isEmpty && false) = true then s.take 1 ++ [58] else s) = s := by simp
        rw [hx]
        go_enter Tryz.func187, Tryz.ntmps187
        go_wp2_with (first
          | (go_at_call 218; refine HD.out.mono ?_; rw [hd]; rintro e w1 ⟨rfl, hw1⟩)
          | (go_at_call 219; refine (HS.out _).mono ?_; rw [h1]; rintro e w2 ⟨rfl, hw2⟩)
          | (go_at_call 155; refine (HV.out _).mono ?_; rintro e w' ⟨rfl, rfl⟩)
          | (go_at_call 72; refine (enc_call 4 (by decide) s _ _ rfl _ (grownCap_ge _ _ _ _) hs).mono ?_; rintro e w3 ⟨rfl, hw3⟩)
          | (at_builtin; refine wpList_append_moved rfl _ _ 23 rfl B 9 i0 (.string ⟨#[]⟩) 16 Tryz.underlying23 hi hz0 hz1 hz2 rfl _ _ _ rfl (World.ownsRow.alloc (((HO.out.next hw1).next hw2).next hw3) _) ⟨w3.heap.size, 0, none⟩ (.string (str (escape 4 s))) rfl ?c1 rfl ?c3 ?c4 ?c5 ?_))
        case c1 => simp
        case c3 => unfold maxLen; simp
        case c4 => simp
        case c5 => have := hw2.size; have := hw1.size; have := hw3.size; simp; omega
        intro v2 w4 ho4 hg4 hm4
        have hb3 := app_below (((hw1.trans (hw2.mono hw1.size)).trans (hw3.mono (Nat.le_trans hw1.size hw2.size))).mono hB) (Nat.le_trans hB (Nat.le_trans (Nat.le_trans hw1.size hw2.size) hw3.size)) (((HO.out.next hw1).next hw2).next hw3) _ hg4
        go_wp2
        go_ret
        exact ⟨_, rfl, own_app (v := v2) (p := []) ho4, hb3, grown_trans (grown_alloc (grown_of_below ((hw1.trans (hw2.mono hw1.size)).trans (hw3.mono (Nat.le_trans hw1.size hw2.size))) _) _) hg4, moved_up _ hm4 (Nat.le_trans (Nat.le_trans hw1.size hw2.size) hw3.size)⟩
      | true =>
        rw [hv] at HV
        obtain ⟨x, y, rfl⟩ := drive_le hv
        have hx : (if (true && ([] : List Bs).isEmpty && true) = true then ([x, y] : Bs).take 1 ++ [58] else [x, y]) = [x, 58] := by simp
        rw [hx]
        clear hv
        go_enter Tryz.func187, Tryz.ntmps187
        go_wp2_with (first
          | (go_at_call 218; refine HD.out.mono ?_; rw [hd]; rintro e w1 ⟨rfl, hw1⟩)
          | (go_at_call 219; refine (HS.out _).mono ?_; rw [h1]; rintro e w2 ⟨rfl, hw2⟩)
          | (go_at_call 155; refine (HV.out _).mono ?_; rintro e w' ⟨rfl, rfl⟩)
          | (go_at_call 72; refine (enc_call 4 (by decide) [x, 58] _ _ rfl _ (grownCap_ge _ _ _ _) (by simp)).mono ?_; rintro e w3 ⟨rfl, hw3⟩)
          | (at_builtin; refine wpList_append_moved rfl _ _ 23 rfl B 9 i0 (.string ⟨#[]⟩) 16 Tryz.underlying23 hi hz0 hz1 hz2 rfl _ _ _ rfl (World.ownsRow.alloc (((HO.out.next hw1).next hw2).next hw3) _) ⟨w3.heap.size, 0, none⟩ (.string (str (escape 4 [x, 58]))) rfl ?c1 rfl ?c3 ?c4 ?c5 ?_))
        case c1 => simp
        case c3 => unfold maxLen; simp
        case c4 => simp
        case c5 => have := hw2.size; have := hw1.size; have := hw3.size; simp; omega
        intro v2 w4 ho4 hg4 hm4
        have hb3 := app_below (((hw1.trans (hw2.mono hw1.size)).trans (hw3.mono (Nat.le_trans hw1.size hw2.size))).mono hB) (Nat.le_trans hB (Nat.le_trans (Nat.le_trans hw1.size hw2.size) hw3.size)) (((HO.out.next hw1).next hw2).next hw3) _ hg4
        go_wp2
        go_ret
        exact ⟨_, rfl, own_app (v := v2) (p := []) ho4, hb3, grown_trans (grown_alloc (grown_of_below ((hw1.trans (hw2.mono hw1.size)).trans (hw3.mono (Nat.le_trans hw1.size hw2.size))) _) _) hg4, moved_up _ hm4 (Nat.le_trans (Nat.le_trans hw1.size hw2.size) hw3.size)⟩
    · have he : p.isEmpty = false := by simpa using h0
      have hx : (if (true && p.isEmpty && drive s) = true then s.take 1 ++ [58] else s) = s := by simp [he]
      rw [hx]
      have hl0 : ((p.length : Int) == 0) = false := by
        rw [beq_eq_false_iff_ne]; have := List.length_pos_iff.2 h0; omega
      clear h0 he hx
      go_enter Tryz.func187, Tryz.ntmps187
      go_wp2_with (first
        | (go_at_call 218; refine HD.out.mono ?_; rw [hd]; rintro e w1 ⟨rfl, hw1⟩)
        | (go_at_call 219; refine (HS.out _).mono ?_; rw [h1]; rintro e w2 ⟨rfl, hw2⟩)
        | (go_at_call 72; refine (enc_call 4 (by decide) s _ _ rfl _ (grownCap_ge _ _ _ _) hs).mono ?_; rintro e w3 ⟨rfl, hw3⟩)
        | (at_builtin; refine wpList_append_moved rfl _ _ 23 rfl B 9 i0 (.string ⟨#[]⟩) 16 Tryz.underlying23 hi hz0 hz1 hz2 rfl _ _ _ rfl (World.ownsRow.alloc (((HO.out.next hw1).next hw2).next hw3) _) ⟨w3.heap.size, 0, none⟩ (.string (str (escape 4 s))) rfl ?c1 rfl ?c3 ?c4 ?c5 ?_))
      case c1 => simp
      case c3 => unfold maxLen; omega
      case c4 => omega
      case c5 => have := hw2.size; have := hw1.size; have := hw3.size; simp; omega
      intro v2 w4 ho4 hg4 hm4
      have hb3 := app_below (((hw1.trans (hw2.mono hw1.size)).trans (hw3.mono (Nat.le_trans hw1.size hw2.size))).mono hB) (Nat.le_trans hB (Nat.le_trans (Nat.le_trans hw1.size hw2.size) hw3.size)) (((HO.out.next hw1).next hw2).next hw3) _ hg4
      go_wp2
      go_ret
      exact ⟨_, rfl, own_app (v := v2) ho4, hb3, grown_trans (grown_alloc (grown_of_below ((hw1.trans (hw2.mono hw1.size)).trans (hw3.mono (Nat.le_trans hw1.size hw2.size))) _) _) hg4, moved_up _ hm4 (Nat.le_trans (Nat.le_trans hw1.size hw2.size) hw3.size)⟩

theorem path_step (file last : Bool) (v : Value) (p : List Bs) (s : Bs) (B : Nat) (w : World) (hB : B ≤ w.heap.size) (ho : Own w B v p) (hp : p.length ≤ 1000000000) (hs : s.length ≤ 1073741824) :
    Calls Tryz.prog 187 #[.bool file, v, .string (str s), .bool last] w fun e w' => ∃ v', e = .returned v' ∧ Own w' B v' (step file p s last) ∧ Below B w w' ∧ w.grownBy w' v.ownBlock ∧ Moved w v v' := by
  unfold step
  cases hd : double s with
  | true =>
    cases last with
    | true => simpa using step_double_last file v p s B w hB ho hp hs hd
    | false => simpa using step_double file v p s B w hB ho hp hs hd
  | false =>
    cases h1 : single s with
    | true =>
      cases last with
      | true => simpa using step_single_last file v p s B w hB ho hp hs hd h1
      | false => simpa using step_single file v p s B w hB ho hs hd h1
    | false => simpa using step_other file last v p s B w hB ho hp hs hd h1
end Go.Proofs.YtfonfcbibdfplaaGreatDoor

/- Texts: Split, ReplaceAll, Contains, LastIndexByte, Join as plain functions on lists of bytes. No condition. -/
namespace Go.Proofs.YtfonfcbibdfplaaGreatDoor
open Go.RowKit

theorem split_miss (c : UInt8) : ∀ l : Bs, l.contains c = false → split c l = [l]
  | [], _ => rfl
  | a :: t, h => by
    simp only [List.contains_cons, Bool.or_eq_false_iff] at h
    have hne : (a == c) = false := by
      have := h.1; rw [beq_eq_false_iff_ne] at this ⊢; exact fun e => this e.symm
    simp only [split, hne, Bool.false_eq_true, if_false, split_miss c t h.2]
theorem split_hit (c : UInt8) : ∀ l : Bs, l.contains c = true → split c l = l.takeWhile (· != c) :: split c ((l.dropWhile (· != c)).drop 1)
  | [], h => by simp at h
  | a :: t, h => by
    by_cases hac : a = c
    · subst hac; simp [split]
    · have hne : (a == c) = false := by simpa using hac
      have hne2 : (a != c) = true := by simpa using hac
      have ht : t.contains c = true := by
        simp only [List.contains_cons, Bool.or_eq_true] at h
        rcases h with h | h
        · exact absurd (by simpa using h) (fun e : c = a => hac e.symm)
        · exact h
      simp only [split, hne, Bool.false_eq_true, if_false, split_hit c t ht, List.takeWhile_cons, hne2, if_true, List.dropWhile_cons]
theorem indexB_one (c : UInt8) (l : Bs) : Lib.indexB (str l) ⟨#[c]⟩ = Lib.index l [c] := rfl
theorem countB_one (c : UInt8) (l : Bs) : Lib.countB (str l) ⟨#[c]⟩ = l.count c := Lib.count_one c l
theorem count_rest (c : UInt8) (l : Bs) (h : l.contains c = true) : l.count c = ((l.dropWhile (· != c)).drop 1).count c + 1 := by
  induction l with
  | nil => simp at h
  | cons a t ih =>
    by_cases hac : a = c
    · subst hac; simp
    · have hne2 : (a != c) = true := by simpa using hac
      have ht : t.contains c = true := by
        simp only [List.contains_cons, Bool.or_eq_true] at h
        rcases h with h | h
        · exact absurd (by simpa using h) (fun e : c = a => hac e.symm)
        · exact h
      rw [List.dropWhile_cons, hne2, if_pos rfl, List.count_cons_of_ne (by simpa using hac)]
      exact ih ht
theorem count_zero {c : UInt8} {l : Bs} (h : l.count c = 0) : l.contains c = false := by
  rw [List.count_eq_zero] at h; simpa using h
theorem splitB_split (c : UInt8) : ∀ (k : Nat) (l : Bs), l.count c ≤ k → Lib.splitB ⟨#[c]⟩ 0 k (str l) = (split c l).map str
  | 0, l, h => by
    rw [split_miss c l (count_zero (by omega))]; rfl
  | k + 1, l, h => by
    rcases index_one c l with ⟨h1, h2, h3, h4⟩ | ⟨i, h1, h2, h3, h4⟩
    · rw [split_miss c l h2, Lib.splitB_miss _ _ _ _ (by rw [indexB_one]; exact h1)]; rfl
    · rw [split_hit c l h2]
      have hne : ¬ (Lib.indexB (str l) ⟨#[c]⟩ == -1) = true := by rw [indexB_one, h1]; simp
      rw [Lib.splitB, if_neg hne, indexB_one, h1, Int.toNat_natCast]
      have e1 : (str l).extract 0 (i + 0) = str (l.takeWhile (· != c)) := by
        rw [str_extract, Nat.add_zero, List.drop_zero, h3]
      have e2 : (str l).extract (i + (ByteArray.mk #[c]).size) (str l).size = str ((l.dropWhile (· != c)).drop 1) := by
        rw [str_extract, str_size, List.take_length, ← h4, List.drop_drop]; rfl
      rw [e1, e2, splitB_split c k _ (by have := count_rest c l h2; omega)]
      rfl
theorem split_len (c : UInt8) (l : Bs) : (split c l).length = l.count c + 1 := by
  induction l with
  | nil => rfl
  | cons a t ih =>
    by_cases hac : a = c
    · subst hac; simp [split, ih]
    · have hne : (a == c) = false := by simpa using hac
      rw [List.count_cons_of_ne (by simpa using hac)]
      simp only [split, hne, Bool.false_eq_true, if_false]
      split
      · rename_i h; rw [h] at ih; simp at ih
      · rename_i h; rw [h] at ih; simpa using ih
theorem split_pos (c : UInt8) (l : Bs) : 0 < (split c l).length := by rw [split_len]; omega
theorem split_mem_len {c : UInt8} : ∀ {l x : Bs}, x ∈ split c l → x.length ≤ l.length
  | [], x, h => by simp [split] at h; subst h; simp
  | a :: t, x, h => by
    simp only [split] at h
    split at h
    · rcases List.mem_cons.1 h with rfl | h
      · simp
      · have := split_mem_len h; simp; omega
    · split at h
      · rename_i hs; simp at h; subst h; simp
      · rename_i y r hs
        rcases List.mem_cons.1 h with rfl | h
        · have := split_mem_len (c := c) (l := t) (x := y) (by rw [hs]; exact List.mem_cons_self ..); simp; omega
        · have := split_mem_len (c := c) (l := t) (x := x) (by rw [hs]; exact List.mem_cons_of_mem _ h); simp; omega

theorem mem_takeWhile {c x : UInt8} : ∀ {l : Bs}, x ∈ l.takeWhile (· != c) → (x != c) = true
  | [], h => by simp at h
  | a :: t, h => by
    rw [List.takeWhile_cons] at h
    split at h
    · rename_i ha
      rcases List.mem_cons.1 h with rfl | h
      · exact ha
      · exact mem_takeWhile h
    · simp at h
theorem dropWhile_head (c : UInt8) : ∀ l : Bs, ((l.dropWhile (· != c)).head?.all fun y => !(y != c)) = true
  | [] => rfl
  | a :: t => by
    rw [List.dropWhile_cons]
    by_cases h : (a != c) = true
    · rw [if_pos h]; exact dropWhile_head c t
    · rw [if_neg h]; simpa using h
theorem replaceK_map (c d : UInt8) : ∀ (k : Nat) (l : Bs), l.count c ≤ k → Lib.replaceK [c] [d] k l = l.map fun x => if x == c then d else x
  | 0, l, h => by
    have h0 := count_zero (c := c) (l := l) (by omega)
    rw [Lib.replaceK]
    conv => lhs; rw [← List.map_id l]
    apply List.map_congr_left
    intro x hx
    have : (x == c) = false := by
      rw [beq_eq_false_iff_ne]; rintro rfl; simp at h0; exact h0 hx
    simp [this]
  | k + 1, l, h => by
    rcases index_one c l with ⟨h1, h2, h3, h4⟩ | ⟨i, h1, h2, h3, h4⟩
    · have hm : (Lib.index l [c] == -1) = true := by rw [h1]; rfl
      rw [Lib.replaceK, if_pos hm]
      conv => lhs; rw [← List.map_id l]
      apply List.map_congr_left
      intro x hx
      have : (x == c) = false := by
        rw [beq_eq_false_iff_ne]; rintro rfl; simp at h2; exact h2 hx
      simp [this]
    · rw [Lib.replaceK_hit _ _ _ _ i h1]
      have e2 : l.drop (i + [c].length) = (l.dropWhile (· != c)).drop 1 := by rw [← h4, List.drop_drop]; rfl
      rw [e2, replaceK_map c d k _ (by have := count_rest c l h2; omega), h3]
      have hsp : l = l.takeWhile (· != c) ++ c :: (l.dropWhile (· != c)).drop 1 := by
        have h5 := List.takeWhile_append_dropWhile (p := (· != c)) (l := l)
        cases hd : l.dropWhile (· != c) with
        | nil =>
          exfalso
          have : l.takeWhile (· != c) = l := by rw [hd] at h5; simpa using h5
          have h6 : ∀ x ∈ l.takeWhile (· != c), (x != c) = true := fun x hx => mem_takeWhile hx
          rw [this] at h6
          simp at h2
          have := h6 c h2
          simp at this
        | cons x r =>
          have hx : x = c := by
            have h7 : ((l.dropWhile (· != c)).head?.all fun y => !(y != c)) = true := dropWhile_head c l
            rw [hd] at h7
            simpa using h7
          subst hx
          rw [hd] at h5
          simpa using h5.symm
      conv => rhs; rw [hsp, List.map_append, List.map_cons]
      have e3 : (l.takeWhile (· != c)).map (fun x => if (x == c) = true then d else x) = l.takeWhile (· != c) := by
        conv => rhs; rw [← List.map_id (l.takeWhile (· != c))]
        apply List.map_congr_left
        intro x hx
        have := mem_takeWhile hx
        have : (x == c) = false := by simpa using this
        simp [this]
      rw [e3]
      simp
end Go.Proofs.YtfonfcbibdfplaaGreatDoor

