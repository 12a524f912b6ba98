import Derived.Test.YtfonfcbibdfplaaGreatDoorG41
/- What is escaped already stays; a path that was walked is walked the same again: plain laws. No condition. -/
namespace Go.Proofs.YtfonfcbibdfplaaGreatDoor

/-- No byte that would be escaped. -/
def okC (set : Nat) (l : Bs) : Prop := ∀ c ∈ l, inSet set c = false
theorem okC_nil (set : Nat) : okC set [] := fun _ h => by cases h
theorem escape_nil (set : Nat) : escape set [] = [] := rfl
theorem escape_cons (set : Nat) (c : UInt8) (t : Bs) : escape set (c :: t) = (if inSet set c then esc1 c else [c]) ++ escape set t := rfl
theorem escape_app (set : Nat) (a b : Bs) : escape set (a ++ b) = escape set a ++ escape set b := by unfold escape; rw [List.flatMap_append]
theorem escape_ok {set : Nat} : ∀ {l : Bs}, okC set l → escape set l = l
  | [], _ => rfl
  | c :: t, h => by rw [escape_cons, h c (by simp), escape_ok (l := t) (fun x hx => h x (by simp [hx]))]; rfl
/-- A statement of all bytes, by all numbers. -/
theorem of_all {P : UInt8 → Prop} (h : ∀ n : Nat, n < 256 → P (UInt8.ofNat n)) (c : UInt8) : P c := by
  have := h c.toNat c.toNat_lt
  rwa [UInt8.ofNat_toNat] at this
theorem esc1_ok : ∀ set : Nat, set ≤ 5 → ∀ c : UInt8, ∀ x ∈ esc1 c, inSet set x = false := by
  intro set hs
  exact of_all (by revert set; decide +kernel)
theorem escape_okC {set : Nat} (hs : set ≤ 5) : ∀ l : Bs, okC set (escape set l)
  | [] => okC_nil set
  | c :: t => by
    intro x hx
    rw [escape_cons, List.mem_append] at hx
    rcases hx with h | h
    · cases hc : inSet set c with
      | true => rw [hc] at h; exact esc1_ok set hs c x h
      | false =>
        rw [hc] at h
        have : x = c := by simpa using h
        rw [this]; exact hc
    · exact escape_okC hs t x h
theorem escape_twice {set : Nat} (hs : set ≤ 5) (l : Bs) : escape set (escape set l) = escape set l := escape_ok (escape_okC hs l)
/-- What comes of an escape: a byte that stood there, or one of an escape's. -/
theorem escape_mem {set : Nat} {c : UInt8} : ∀ {l : Bs}, c ∈ escape set l → (c ∈ l ∧ inSet set c = false) ∨ c = 37 ∨ (48 ≤ c ∧ c ≤ 57) ∨ (65 ≤ c ∧ c ≤ 70)
  | [], h => by cases h
  | d :: t, h => by
    rw [escape_cons, List.mem_append] at h
    rcases h with h | h
    · cases hd : inSet set d with
      | true =>
        rw [hd] at h
        right
        have e : ∀ d : UInt8, ∀ x ∈ esc1 d, x = 37 ∨ (48 ≤ x ∧ x ≤ 57) ∨ (65 ≤ x ∧ x ≤ 70) := of_all (by decide +kernel)
        exact e d c h
      | false =>
        rw [hd] at h
        have : c = d := by simpa using h
        subst this
        exact .inl ⟨by simp, hd⟩
    · rcases escape_mem h with ⟨h, h2⟩ | h
      · exact .inl ⟨by simp [h], h2⟩
      · exact .inr h

/-! ### Points -/
theorem dots_esc : ∀ (k : Nat) (s : Bs) (n : Nat), (escape 4 s).length ≤ k → dotsF k (escape 4 s) = some n → escape 4 s = s
  | _, [], _, _, _ => rfl
  | 0, c :: t, n, h, _ => by
    rw [escape_cons] at h
    exfalso
    split at h <;> simp [esc1] at h
  | k + 1, c :: t, n, h, hd => by
    rw [escape_cons] at h hd ⊢
    cases hc : inSet 4 c with
    | true =>
      rw [hc, if_pos rfl] at hd
      exfalso
      have e : ∀ c : UInt8, inSet 4 c = true → (hexDig (c / 16) ≠ 50 ∨ (low1 (hexDig (c % 16))) ≠ 101) ∧ low1 (hexDig (c / 16)) = (if hexDig (c / 16) = 50 then 50 else low1 (hexDig (c / 16))) ∧ (low1 (hexDig (c / 16)) = 50 → hexDig (c / 16) = 50) := of_all (by decide +kernel)
      obtain ⟨e1, _, e3⟩ := e c hc
      simp only [esc1, List.cons_append, List.nil_append, dotsF] at hd
      rw [if_neg (by decide)] at hd
      split at hd
      · rename_i h3
        simp [lower] at h3
        rcases e1 with e1 | e1
        · exact e1 (e3 h3.2.1)
        · exact e1 h3.2.2
      · cases hd
    | false =>
      rw [hc] at hd h
      simp only [Bool.false_eq_true, if_false, List.cons_append, List.nil_append] at hd h ⊢
      simp only [dotsF] at hd
      split at hd
      · rw [Option.map_eq_some_iff] at hd
        obtain ⟨m, hm, _⟩ := hd
        rw [dots_esc k t m (by simpa using h) hm]
      · split at hd
        · rename_i h46 h3
          rw [Option.map_eq_some_iff] at hd
          obtain ⟨m, hm, _⟩ := hd
          match t, h3, hm, h with
          | [], h3, _, _ => exfalso; simp [lower, escape_nil] at h3
          | x :: t1, h3, hm, h =>
            rw [escape_cons] at h3 hm h ⊢
            cases hx : inSet 4 x with
            | true =>
              exfalso
              rw [hx] at h3
              simp [esc1, lower] at h3
              exact absurd h3.2.1 (by decide)
            | false =>
              rw [hx] at h3 hm h
              simp only [Bool.false_eq_true, if_false, List.cons_append, List.nil_append] at h3 hm h ⊢
              match t1, h3, hm, h with
              | [], h3, _, _ => exfalso; simp [lower, escape_nil] at h3
              | y :: t2, h3, hm, h =>
                rw [escape_cons] at h3 hm h ⊢
                cases hy : inSet 4 y with
                | true =>
                  exfalso
                  rw [hy] at h3
                  simp [esc1, lower] at h3
                  exact absurd h3.2.2 (by decide)
                | false =>
                  rw [hy] at hm h
                  simp only [Bool.false_eq_true, if_false, List.cons_append, List.nil_append] at hm h ⊢
                  have := dots_esc k t2 m (by simp only [List.length_cons] at h; omega) (by simpa using hm)
                  rw [this]
        · cases hd
theorem dots_of_esc {s : Bs} (h : dots (escape 4 s) ≠ 0) : escape 4 s = s := by
  unfold dots at h
  cases hd : dotsF (escape 4 s).length (escape 4 s) with
  | none => rw [hd] at h; exact absurd rfl h
  | some n => exact dots_esc _ s n (Nat.le_refl _) hd
theorem single_esc {s : Bs} (h : single s = false) : single (escape 4 s) = false := by
  cases h1 : single (escape 4 s) with
  | false => rfl
  | true =>
    unfold single at h1
    have h1' : dots (escape 4 s) = 1 := by simpa using h1
    rw [dots_of_esc (by omega)] at h1'
    unfold single at h
    rw [h1'] at h; cases h
theorem double_esc {s : Bs} (h : double s = false) : double (escape 4 s) = false := by
  cases h1 : double (escape 4 s) with
  | false => rfl
  | true =>
    unfold double at h1
    have h1' : dots (escape 4 s) = 2 := by simpa using h1
    rw [dots_of_esc (by omega)] at h1'
    unfold double at h
    rw [h1'] at h; cases h

/-! ### Paths -/
structure Seg (sp : Bool) (x : Bs) : Prop where
  ok : okC 4 x
  s1 : single x = false
  s2 : double x = false
  n47 : (47 : UInt8) ∉ x
  n92 : sp = true → (92 : UInt8) ∉ x
theorem Seg.nil (sp : Bool) : Seg sp [] := ⟨okC_nil 4, by decide, by decide, by simp, by simp⟩
structure POk (file sp : Bool) (p : List Bs) : Prop where
  seg : ∀ x ∈ p, Seg sp x
  one : file = true → ∀ x t, p = x :: t → drive x = true → normal x = true
theorem POk.nil (file sp : Bool) : POk file sp [] := ⟨(fun _ h => by cases h), (fun _ _ _ h => by cases h)⟩
theorem POk.last {file sp : Bool} {p : List Bs} (h : POk file sp p) : POk file sp p.dropLast :=
  ⟨fun x hx => h.seg x ((List.dropLast_sublist p).subset hx), fun hf x t e hd => by
    match p, e with
    | y :: z :: r, e =>
      simp at e
      exact h.one hf x (z :: r) (by rw [e.1]) hd⟩
theorem POk.shorten {file sp : Bool} {p : List Bs} (h : POk file sp p) (f : Bool) : POk file sp (shorten f p) := by
  unfold Proofs.YtfonfcbibdfplaaGreatDoor.shorten; split
  · exact h
  · exact h.last
theorem POk.add {file sp : Bool} {p : List Bs} (h : POk file sp p) {x : Bs} (hx : Seg sp x) (h1 : file = true → p = [] → drive x = true → normal x = true) : POk file sp (p ++ [x]) :=
  ⟨fun y hy => by
    rcases List.mem_append.1 hy with hy | hy
    · exact h.seg y hy
    · rw [List.mem_singleton.1 hy]; exact hx, fun hf y t e hd => by
    match p, e with
    | [], e =>
      simp at e
      rw [← e.1] at hd ⊢
      exact h1 hf rfl hd
    | z :: r, e =>
      simp at e
      exact h.one hf y r (by rw [e.1]) hd⟩
theorem drive_two {s : Bs} (h : drive s = true) : ∃ a b, s = [a, b] ∧ letter a = true ∧ (b = 58 ∨ b = 124) := by
  match s, h with
  | [a, b], h =>
    unfold drive at h
    simp at h
    exact ⟨a, b, rfl, h.1, h.2⟩
theorem colon_ok : ∀ a : UInt8, letter a = true → inSet 4 a = false ∧ a ≠ 47 ∧ a ≠ 92 ∧ a ≠ 46 ∧ a ≠ 37 := of_all (by decide +kernel)
theorem seg_colon {sp : Bool} {a : UInt8} (h : letter a = true) : Seg sp [a, 58] ∧ normal [a, 58] = true ∧ escape 4 [a, 58] = [a, 58] := by
  obtain ⟨h1, h2, h3, h4, h5⟩ := colon_ok a h
  have hok : okC 4 [a, 58] := by
    intro x hx
    simp at hx
    rcases hx with rfl | rfl
    · exact h1
    · decide
  have hd : dotsF 2 [a, 58] = none := by
    have e1 : (a == 46) = false := by simpa using h4
    have e2 : (lower ([a, 58].take 3) == [37, 50, 101]) = false := by simp [lower]
    simp only [dotsF, e1, e2, Bool.false_eq_true, if_false]
  have hdd : dots [a, 58] = 0 := by unfold dots; show (dotsF 2 [a, 58]).getD 0 = 0; rw [hd]; rfl
  refine ⟨⟨hok, by unfold single; rw [hdd]; rfl, by unfold double; rw [hdd]; rfl, ?_, fun _ => ?_⟩, ?_, escape_ok hok⟩
  · simp; exact fun e => h2 e.symm
  · simp; exact fun e => h3 e.symm
  · unfold normal drive; simp [h]
theorem step_ok {file sp : Bool} {p : List Bs} (h : POk file sp p) {s : Bs} (h47 : (47 : UInt8) ∉ s) (h92 : sp = true → (92 : UInt8) ∉ s) (last : Bool) : POk file sp (step file p s last) := by
  have hn : ∀ q, POk file sp q → POk file sp (q ++ [[]]) := fun q hq => hq.add (Seg.nil sp) (fun _ _ hd => by cases hd)
  unfold step
  split
  · split
    · exact hn _ (h.shorten file)
    · exact h.shorten file
  · rename_i hd
    split
    · split
      · exact hn _ h
      · exact h
    · rename_i hs
      have hd' : double s = false := by simpa using hd
      have hs' : single s = false := by simpa using hs
      split
      · rename_i hf
        simp at hf
        obtain ⟨a, b, rfl, hl, _⟩ := drive_two hf.2
        obtain ⟨g1, g2, g3⟩ := seg_colon (sp := sp) hl
        show POk file sp (p ++ [escape 4 [a, 58]])
        rw [g3]
        exact h.add g1 (fun _ _ _ => g2)
      · rename_i hf
        refine h.add ⟨escape_okC (by omega) s, single_esc hs', double_esc hd', ?_, fun hsp => ?_⟩ ?_
        · intro hm
          rcases escape_mem hm with ⟨hm, _⟩ | hm | hm | hm
          · exact h47 hm
          · exact absurd hm (by decide)
          · exact absurd hm (by decide)
          · exact absurd hm (by decide)
        · intro hm
          rcases escape_mem hm with ⟨hm, _⟩ | hm | hm | hm
          · exact h92 hsp hm
          · exact absurd hm (by decide)
          · exact absurd hm (by decide)
          · exact absurd hm (by decide)
        · intro hfile hp hdr
          exfalso
          subst hp
          simp [hfile] at hf
          -- a drive, escaped, is a drive: it has no byte to be escaped but what is no letter
          have e : ∀ s : Bs, drive (escape 4 s) = true → escape 4 s = s := by
            intro s hs
            match s with
            | [] => rfl
            | [c] =>
              rw [escape_cons, escape_nil, List.append_nil] at hs ⊢
              cases hc : inSet 4 c with
              | true => rw [hc] at hs; simp [esc1, drive] at hs
              | false => rfl
            | [c, d] =>
              rw [escape_cons, escape_cons, escape_nil, List.append_nil] at hs ⊢
              cases hc : inSet 4 c <;> cases hd : inSet 4 d <;> rw [hc, hd] at hs <;> first | rfl | (simp [esc1, drive] at hs)
            | c :: d :: e :: r =>
              exfalso
              have hl : 3 ≤ (escape 4 (c :: d :: e :: r)).length := by
                rw [escape_cons, escape_cons, escape_cons]
                simp only [List.length_append]
                have : ∀ x : UInt8, 1 ≤ (if inSet 4 x = true then esc1 x else [x]).length := fun x => by split <;> simp [esc1]
                have h1 := this c; have h2 := this d; have h3 := this e
                omega
              obtain ⟨a, b, hab, _⟩ := drive_two hs
              rw [hab] at hl
              simp at hl
          rw [e s hdr] at hdr
          rw [hdr] at hf; cases hf
theorem walkF_ok {file sp : Bool} : ∀ (l : List Bs) {p : List Bs}, POk file sp p → (∀ s ∈ l, (47 : UInt8) ∉ s ∧ (sp = true → (92 : UInt8) ∉ s)) → POk file sp (walkF file p l)
  | [], _, h, _ => h
  | [s], _, h, hl => step_ok h (hl s (by simp)).1 (hl s (by simp)).2 true
  | s :: t :: l, _, h, hl => walkF_ok (t :: l) (step_ok h (hl s (by simp)).1 (hl s (by simp)).2 false) (fun x hx => hl x (by simp at hx; simp [hx]))
theorem step_ne (file : Bool) (p : List Bs) (s : Bs) : step file p s true ≠ [] := by
  unfold step
  simp only [if_true]
  (repeat' split) <;> simp
theorem walkF_ne (file : Bool) : ∀ (l : List Bs) (p : List Bs), l ≠ [] → walkF file p l ≠ []
  | [], _, h => absurd rfl h
  | [s], p, _ => step_ne file p s
  | s :: t :: l, p, _ => walkF_ne file (t :: l) (step file p s false) (by simp)
theorem split_no {c : UInt8} : ∀ (l : Bs) {x : Bs}, x ∈ split c l → c ∉ x
  | [], x, h => by simp [split] at h; simp [h]
  | d :: t, x, h => by
    unfold split at h
    split at h
    · rcases List.mem_cons.1 h with rfl | h
      · simp
      · exact split_no t h
    · rename_i hd
      split at h
      · simp at h; subst h
        simp
        intro e; exact hd (by simp [e])
      · rename_i y l he
        rcases List.mem_cons.1 h with rfl | h
        · intro hm
          rcases List.mem_cons.1 hm with e | hm
          · exact hd (by simp [e])
          · exact split_no t (x := y) (by rw [he]; simp) hm
        · exact split_no t (by rw [he]; simp [h])
theorem split_ne (c : UInt8) : ∀ l : Bs, split c l ≠ []
  | [] => by simp [split]
  | d :: t => by unfold split; split; simp; split <;> simp
theorem split_mem {c : UInt8} {d : UInt8} : ∀ (l : Bs) {x : Bs}, x ∈ split c l → d ∈ x → d ∈ l
  | [], x, h, hd => by simp [split] at h; simp [h] at hd
  | e :: t, x, h, hd => by
    unfold split at h
    split at h
    · rcases List.mem_cons.1 h with rfl | h
      · cases hd
      · simp [split_mem t h hd]
    · split at h
      · simp at h; subst h
        simp at hd; simp [hd]
      · rename_i y l he
        rcases List.mem_cons.1 h with rfl | h
        · rcases List.mem_cons.1 hd with e | hd
          · simp [e]
          · simp [split_mem t (x := y) (by rw [he]; simp) hd]
        · simp [split_mem t (x := x) (by rw [he]; simp [h]) hd]
theorem unback_no (s : Bs) : (92 : UInt8) ∉ unback s := by
  unfold unback
  intro h
  rw [List.mem_map] at h
  obtain ⟨c, _, hc⟩ := h
  split at hc
  · exact absurd hc (by decide)
  · rename_i h1; rw [hc] at h1; simp at h1
theorem walk_ok {file sp : Bool} {p : List Bs} (h : POk file sp p) (s : Bs) : POk file sp (walk file sp p s) := by
  unfold walk
  refine walkF_ok _ h fun x hx => ⟨split_no _ hx, fun hsp => ?_⟩
  rw [hsp, if_pos rfl] at hx
  exact fun hm => unback_no s (split_mem _ hx hm)
theorem walk_ne (file sp : Bool) (p : List Bs) (s : Bs) : walk file sp p s ≠ [] := walkF_ne file _ p (split_ne 47 _)
/-- Walked again. -/
theorem step_again {file sp : Bool} {p : List Bs} {x : Bs} (hx : Seg sp x) (h1 : file = true → p = [] → drive x = true → normal x = true) (last : Bool) : step file p x last = p ++ [x] := by
  unfold step
  rw [hx.s2, hx.s1]
  simp only [Bool.false_eq_true, if_false]
  split
  · rename_i hf
    simp at hf
    have hn := h1 hf.1.1 hf.1.2 hf.2
    obtain ⟨a, b, rfl, hl, hb⟩ := drive_two hf.2
    have hb' : b = 58 := by
      unfold normal at hn; simp at hn; exact hn.2
    subst hb'
    obtain ⟨_, _, g3⟩ := seg_colon (sp := sp) hl
    show p ++ [escape 4 [a, 58]] = _
    rw [g3]
  · rw [escape_ok hx.ok]
theorem walkF_again {file sp : Bool} : ∀ (q p : List Bs), POk file sp (p ++ q) → q ≠ [] → walkF file p q = p ++ q
  | [], _, _, h => absurd rfl h
  | [x], p, h, _ => step_again (h.seg x (by simp)) (fun hf hp hd => h.one hf x [] (by rw [hp]; rfl) hd) true
  | x :: y :: q, p, h, _ => by
    show walkF file (step file p x false) (y :: q) = _
    rw [step_again (h.seg x (by simp)) (fun hf hp hd => h.one hf x (y :: q) (by rw [hp]; rfl) hd) false, walkF_again (y :: q) (p ++ [x]) (by rw [List.append_assoc]; exact h) (by simp), List.append_assoc]
    rfl
theorem split_hit' {c : UInt8} : ∀ {x : Bs} (_ : c ∉ x) (r : Bs), split c (x ++ c :: r) = x :: split c r
  | [], _, r => by rw [List.nil_append]; conv => lhs; unfold split
                   simp
  | d :: t, h, r => by
    have hd : (d == c) = false := by simp at h ⊢; exact fun e => h.1 e.symm
    rw [List.cons_append]
    conv => lhs; unfold split
    rw [hd, split_hit' (x := t) (fun hm => h (by simp [hm])) r]
    rfl
theorem split_miss' {c : UInt8} : ∀ {x : Bs} (_ : c ∉ x), split c x = [x]
  | [], _ => rfl
  | d :: t, h => by
    have hd : (d == c) = false := by simp at h ⊢; exact fun e => h.1 e.symm
    unfold split
    rw [hd, split_miss' (x := t) (fun hm => h (by simp [hm]))]
    rfl
def pathT (p : List Bs) : Bs := p.flatMap fun s => 47 :: s
theorem split_pathT : ∀ (p : List Bs) (x : Bs), (∀ y ∈ x :: p, (47 : UInt8) ∉ y) → split 47 (x ++ pathT p) = x :: p
  | [], x, h => by rw [show pathT [] = [] from rfl, List.append_nil]; exact split_miss' (h x (by simp))
  | y :: p, x, h => by
    rw [show pathT (y :: p) = 47 :: (y ++ pathT p) from rfl, split_hit' (h x (by simp)), split_pathT p y (fun z hz => h z (by simp at hz; simp [hz]))]
theorem pathT_mem {c : UInt8} : ∀ {p : List Bs}, c ∈ pathT p → c = 47 ∨ ∃ x ∈ p, c ∈ x
  | [], h => by cases h
  | y :: p, h => by
    rw [show pathT (y :: p) = 47 :: (y ++ pathT p) from rfl] at h
    rcases List.mem_cons.1 h with h | h
    · exact .inl h
    · rcases List.mem_append.1 h with h | h
      · exact .inr ⟨y, by simp, h⟩
      · rcases pathT_mem h with h | ⟨x, hx, h⟩
        · exact .inl h
        · exact .inr ⟨x, by simp [hx], h⟩
theorem unback_id {s : Bs} (h : (92 : UInt8) ∉ s) : unback s = s := by
  induction s with
  | nil => rfl
  | cons c t ih =>
    have hc : (c == 92) = false := by simp at h ⊢; exact fun e => h.1 e.symm
    show (if c == 92 then 47 else c) :: unback t = _
    rw [hc, ih (fun hm => h (by simp [hm]))]; rfl
theorem walk_again {file sp : Bool} {x : Bs} {p : List Bs} (h : POk file sp (x :: p)) : walk file sp [] (x ++ pathT p) = x :: p := by
  have hs : split 47 (x ++ pathT p) = x :: p := split_pathT p x (fun y hy => (h.seg y hy).n47)
  have e : (if sp = true then unback (x ++ pathT p) else x ++ pathT p) = x ++ pathT p := by
    split
    · rename_i hsp
      refine unback_id fun hm => ?_
      rcases List.mem_append.1 hm with hm | hm
      · exact (h.seg x (by simp)).n92 hsp hm
      · rcases pathT_mem hm with hm | ⟨y, hy, hm⟩
        · exact absurd hm (by decide)
        · exact (h.seg y (by simp [hy])).n92 hsp hm
    · rfl
  unfold walk
  rw [e, hs]
  exact walkF_again (x :: p) [] h (by simp)
end Go.Proofs.YtfonfcbibdfplaaGreatDoor

/- Hosts that were read are read the same again: plain laws (hexadecimal, decimal, IPv4, IPv6). No condition. -/
namespace Go.Proofs.YtfonfcbibdfplaaGreatDoor

/-! ### Hexadecimal -/
theorem pieceF_app : ∀ (l r : Bs) (n : Nat), pieceF n (l ++ r) = (pieceF n l).bind fun m => pieceF m r
  | [], _, _ => rfl
  | c :: t, r, n => by
    show pieceF n (c :: (t ++ r)) = _
    simp only [pieceF]
    split
    · rename_i d _; exact pieceF_app t r (n * 16 + d)
    · rfl
theorem hexd_v : ∀ n : Nat, n < 16 → hexv (hexd n) = some n ∧ ((48 ≤ hexd n ∧ hexd n ≤ 57) ∨ (97 ≤ hexd n ∧ hexd n ≤ 102)) := by decide +kernel
theorem hexF_val : ∀ (k n : Nat), n < k → pieceF 0 (hexF k n) = some n
  | 0, _, h => by omega
  | k + 1, n, h => by
    unfold hexF
    split
    · rename_i h1
      simp [pieceF, (hexd_v n h1).1]
    · rename_i h1
      rw [pieceF_app, hexF_val k (n / 16) (by omega)]
      show pieceF (n / 16) [hexd (n % 16)] = _
      have := (hexd_v (n % 16) (by omega)).1
      simp only [pieceF, this]
      congr 1; omega
theorem hexF_len : ∀ (k n j : Nat), n < 16 ^ j → 0 < j → (hexF k n).length ≤ j
  | 0, _, _, _, _ => Nat.zero_le _
  | k + 1, n, j, h, hj => by
    unfold hexF
    split
    · simp only [List.length_cons, List.length_nil]; omega
    · rename_i h1
      obtain ⟨j, rfl⟩ : ∃ m, j = m + 1 := ⟨j - 1, by omega⟩
      have hj0 : 0 < j := by
        rcases Nat.eq_zero_or_pos j with rfl | h2
        · simp at h; omega
        · exact h2
      have := hexF_len k (n / 16) j (by rw [Nat.pow_succ] at h; omega) hj0
      simp only [List.length_append, List.length_cons, List.length_nil]; omega
theorem hexF_mem : ∀ (k n : Nat) (c : UInt8), c ∈ hexF k n → (48 ≤ c ∧ c ≤ 57) ∨ (97 ≤ c ∧ c ≤ 102)
  | 0, _, _, h => by cases h
  | k + 1, n, c, h => by
    unfold hexF at h
    split at h
    · rename_i h1
      rw [List.mem_singleton.1 h]; exact (hexd_v n h1).2
    · rcases List.mem_append.1 h with h | h
      · exact hexF_mem k _ c h
      · rw [List.mem_singleton.1 h]; exact (hexd_v (n % 16) (by omega)).2
theorem hexs_ne (n : Nat) : hexs n ≠ [] := by unfold hexs hexF; split <;> simp
theorem pieceS_hexs {n : Nat} (h : n < 65536) : pieceS (hexs n) = some n := by
  unfold pieceS
  have h1 : (hexs n).isEmpty = false := by
    cases hx : hexs n with
    | nil => exact absurd hx (hexs_ne n)
    | cons a t => rfl
  have h2 : (hexs n).length ≤ 4 := hexF_len _ n 4 (by omega) (by omega)
  rw [h1, if_neg (by simp; omega)]
  exact hexF_val _ n (by omega)
theorem hexs_mem {n : Nat} {c : UInt8} (h : c ∈ hexs n) : (48 ≤ c ∧ c ≤ 57) ∨ (97 ≤ c ∧ c ≤ 102) := hexF_mem _ n c h
theorem hexs_no {n : Nat} : (58 : UInt8) ∉ hexs n ∧ (46 : UInt8) ∉ hexs n := by
  constructor
  · intro h; rcases hexs_mem h with h | h <;> exact absurd h (by decide)
  · intro h; rcases hexs_mem h with h | h <;> exact absurd h (by decide)

/-! ### Pieces -/
theorem joinS_cons (a b : Nat) (l : List Nat) : joinS (a :: b :: l) = hexs a ++ 58 :: joinS (b :: l) := by
  unfold joinS; simp [join]
theorem joinS_one (a : Nat) : joinS [a] = hexs a := rfl
theorem split_joinS : ∀ (a : Nat) (l : List Nat), split 58 (joinS (a :: l)) = (a :: l).map hexs
  | a, [] => by rw [joinS_one, split_miss' hexs_no.1]; rfl
  | a, b :: l => by rw [joinS_cons, split_hit' hexs_no.1, split_joinS b l]; rfl
theorem runF_hexs (last : Bool) : ∀ (l : List Nat), (∀ n ∈ l, n < 65536) → runF last (l.map hexs) = some l
  | [], _ => rfl
  | [a], h => by
    show runF last [hexs a] = _
    simp only [runF]
    have : (hexs a).contains 46 = false := by simpa using (hexs_no (n := a)).2
    rw [this, Bool.and_false, if_neg (by simp), pieceS_hexs (h a (by simp))]
    rfl
  | a :: b :: l, h => by
    show runF last (hexs a :: hexs b :: l.map hexs) = _
    simp only [runF]
    rw [pieceS_hexs (h a (by simp))]
    show (runF last ((b :: l).map hexs)).map _ = _
    rw [runF_hexs last (b :: l) (fun n hn => h n (by simp at hn; simp [hn]))]
    rfl
theorem joinS_ne (a : Nat) (l : List Nat) : joinS (a :: l) ≠ [] := by
  cases l with
  | nil => exact hexs_ne a
  | cons b l => rw [joinS_cons]; simp
theorem runS_joinS (last : Bool) {l : List Nat} (h : ∀ n ∈ l, n < 65536) : runS (joinS l) last = some l := by
  unfold runS
  cases l with
  | nil => rfl
  | cons a l =>
    have : (joinS (a :: l)).isEmpty = false := by
      cases hx : joinS (a :: l) with
      | nil => exact absurd hx (joinS_ne a l)
      | cons => rfl
    rw [this, split_joinS]
    exact runF_hexs last (a :: l) h
theorem joinS_mem {c : UInt8} : ∀ {l : List Nat}, c ∈ joinS l → c = 58 ∨ (48 ≤ c ∧ c ≤ 57) ∨ (97 ≤ c ∧ c ≤ 102)
  | [], h => by cases h
  | [a], h => .inr (hexs_mem h)
  | a :: b :: l, h => by
    rw [joinS_cons] at h
    rcases List.mem_append.1 h with h | h
    · exact .inr (hexs_mem h)
    · rcases List.mem_cons.1 h with h | h
      · exact .inl h
      · exact joinS_mem h

/-! ### Two colons -/
theorem cut2_skip {a : UInt8} (ha : a ≠ 58) : ∀ (t : Bs), cut2 (a :: t) = (cut2 t).map fun x => (a :: x.1, x.2)
  | [] => rfl
  | b :: t => by
    have e : (a == 58) = false := by simpa using ha
    simp only [cut2, e, Bool.false_and, Bool.false_eq_true, if_false]
theorem cut2_app : ∀ {x : Bs} (_ : (58 : UInt8) ∉ x) (r : Bs), cut2 (x ++ r) = (cut2 r).map fun y => (x ++ y.1, y.2)
  | [], _, r => by simp
  | a :: t, h, r => by
    show cut2 (a :: (t ++ r)) = _
    rw [cut2_skip (fun e => h (by simp [e])), cut2_app (x := t) (fun hm => h (by simp [hm])) r]
    cases cut2 r <;> rfl
theorem cut2_colon {a : UInt8} (ha : a ≠ 58) (t : Bs) : cut2 (58 :: a :: t) = (cut2 (a :: t)).map fun x => (58 :: x.1, x.2) := by
  have e : (a == 58) = false := by simpa using ha
  simp only [cut2, e, Bool.and_false, Bool.false_eq_true, if_false]
theorem hexs_head (n : Nat) : ∃ c t, hexs n = c :: t ∧ c ≠ 58 := by
  cases hx : hexs n with
  | nil => exact absurd hx (hexs_ne n)
  | cons c t =>
    refine ⟨c, t, rfl, fun e => ?_⟩
    have : (58 : UInt8) ∈ hexs n := by rw [hx, e]; simp
    exact hexs_no.1 this
theorem cut2_joinS : ∀ (l : List Nat) (r : Bs), (l = [] → True) → cut2 (joinS l ++ r) = (match l with | [] => cut2 r | _ :: _ => (cut2 r).map fun y => (joinS l ++ y.1, y.2))
  | [], r, _ => rfl
  | [a], r, _ => cut2_app hexs_no.1 r
  | a :: b :: l, r, _ => by
    have ih := cut2_joinS (b :: l) r (fun _ => trivial)
    rw [joinS_cons, List.append_assoc, cut2_app hexs_no.1]
    obtain ⟨c, t, hc, hne⟩ := hexs_head b
    have hj : ∃ t', joinS (b :: l) = c :: t' := by
      cases l with
      | nil => exact ⟨t, hc⟩
      | cons d l => exact ⟨t ++ 58 :: joinS (d :: l), by rw [joinS_cons, hc]; rfl⟩
    obtain ⟨t', hj⟩ := hj
    rw [hj] at ih ⊢
    show Option.map _ (cut2 (58 :: c :: (t' ++ r))) = _
    rw [cut2_colon hne, show c :: (t' ++ r) = c :: t' ++ r from rfl, ih]
    cases cut2 r with
    | none => rfl
    | some y => simp
theorem cut2_none (l : List Nat) : cut2 (joinS l) = none := by
  have := cut2_joinS l [] (fun _ => trivial)
  rw [List.append_nil] at this
  rw [this]
  cases l <;> rfl
theorem cut2_two (l : List Nat) (r : Bs) : cut2 (joinS l ++ 58 :: 58 :: r) = some (joinS l, r) := by
  rw [cut2_joinS l _ (fun _ => trivial)]
  have e : cut2 (58 :: 58 :: r) = some ([], r) := by simp [cut2]
  cases l with
  | nil => rw [e]; rfl
  | cons a l => rw [e]; simp

/-! ### The longest run -/
theorem zeros_lev : ∀ l : List Nat, zeros l ≤ l.length
  | [] => Nat.zero_le _
  | n :: l => by unfold zeros; split; simp only [List.length_cons]; have := zeros_lev l; omega; omega
theorem zeros_at : ∀ (l : List Nat) (i : Nat), i < zeros l → l[i]? = some 0
  | [], i, h => by simp [zeros] at h
  | n :: l, i, h => by
    unfold zeros at h
    split at h
    · rename_i hn
      cases i with
      | zero => simp [hn]
      | succ i => simpa using zeros_at l i (by omega)
    · omega
/-- From f to e there are noughts alone. -/
def NoughtsIn (a : List Nat) (f e : Nat) : Prop := f ≤ e ∧ e ≤ a.length ∧ ∀ i, f ≤ i → i < e → a[i]? = some 0
theorem longF_in (a : List Nat) : ∀ (fuel k f e : Nat) (l : List Nat), l = a.drop k → NoughtsIn a f e → NoughtsIn a (longF fuel k f e l).1 (longF fuel k f e l).2
  | 0, _, _, _, _, _, h => h
  | fuel + 1, k, f, e, l, hl, h => by
    unfold longF
    split
    · exact h
    · rename_i hne
      have hz := zeros_lev l
      have hk : k + zeros l ≤ a.length ∧ l.length = a.length - k := by
        have : l.length = a.length - k := by rw [hl]; simp
        have h0 : 0 < l.length := by cases l with | nil => simp at hne | cons => simp
        omega
      have hd : l.drop (zeros l + 1) = a.drop (k + zeros l + 1) := by
        rw [hl, List.drop_drop]
        congr 1
      split
      · refine longF_in a fuel _ _ _ _ hd ⟨by omega, hk.1, fun i h1 h2 => ?_⟩
        have := zeros_at l (i - k) (by omega)
        rw [hl, List.getElem?_drop, show k + (i - k) = i by omega] at this
        exact this
      · exact longF_in a fuel _ _ _ _ hd h
theorem longest_in (a : List Nat) : NoughtsIn a (longest a).1 (longest a).2 ∧ ((longest a).2 ≠ 0 → (longest a).1 + 2 ≤ (longest a).2) := by
  have h := longF_in a 9 0 0 0 a (by simp) ⟨Nat.le_refl _, Nat.zero_le _, fun i _ h => by omega⟩
  unfold longest
  dsimp only
  split
  · exact ⟨⟨Nat.le_refl _, Nat.zero_le _, fun i _ h => by simp at h⟩, fun h => absurd rfl h⟩
  · exact ⟨h, fun _ => by omega⟩
theorem noughts_mid {a : List Nat} {f e : Nat} (h : NoughtsIn a f e) : a.take f ++ List.replicate (e - f) 0 ++ a.drop e = a := by
  obtain ⟨h1, h2, h3⟩ := h
  apply List.ext_getElem?
  intro i
  by_cases hi : i < f
  · rw [List.getElem?_append_left (by simp; omega), List.getElem?_append_left (by simp; omega), List.getElem?_take_of_lt hi]
  · by_cases hi2 : i < e
    · rw [List.getElem?_append_left (by simp; omega), List.getElem?_append_right (by simp; omega), h3 i (by omega) hi2]
      rw [List.getElem?_replicate, if_pos (by simp; omega)]
    · rw [List.getElem?_append_right (by simp; omega), List.getElem?_drop]
      congr 1
      simp; omega
theorem parseS_printS {a : List Nat} (h8 : a.length = 8) (hlt : ∀ n ∈ a, n < 65536) : parseS (printS a) = some a := by
  obtain ⟨hn, h2⟩ := longest_in a
  unfold printS
  split
  · unfold parseS
    rw [cut2_none]
    dsimp only
    rw [runS_joinS true hlt]
    dsimp only
    rw [if_pos h8]
  · rename_i hne
    have h2 := h2 hne
    generalize (longest a).1 = f at *
    generalize (longest a).2 = e at *
    have hn' := hn
    obtain ⟨h1, h3, _⟩ := hn
    unfold parseS
    rw [List.append_assoc, show [58, 58] ++ joinS (a.drop e) = 58 :: 58 :: joinS (a.drop e) from rfl, cut2_two]
    dsimp only
    rw [runS_joinS false (fun n hm => hlt n (List.mem_of_mem_take hm)), runS_joinS true (fun n hm => hlt n (List.mem_of_mem_drop hm)), cut2_none]
    dsimp only
    have hl1 : (a.take f).length = f := by simp; omega
    have hl2 : (a.drop e).length = 8 - e := by simp; omega
    rw [hl1, hl2, if_neg (by simp; omega), show 8 - f - (8 - e) = e - f by omega, noughts_mid hn']
theorem printS_mem {a : List Nat} {c : UInt8} (h : c ∈ printS a) : c = 58 ∨ (48 ≤ c ∧ c ≤ 57) ∨ (97 ≤ c ∧ c ≤ 102) := by
  unfold printS at h
  split at h
  · exact joinS_mem h
  · simp only [List.mem_append, List.mem_cons, List.not_mem_nil, or_false] at h
    rcases h with (h | h) | h
    · exact joinS_mem h
    · exact .inl (by rcases h with h | h <;> exact h)
    · exact joinS_mem h
end Go.Proofs.YtfonfcbibdfplaaGreatDoor

/- Hosts that were read are read the same again: plain laws (decimal, IPv4, domains, whole hosts). No condition. -/
namespace Go.Proofs.YtfonfcbibdfplaaGreatDoor

/-! ### Decimal -/
theorem dig_v : ∀ n : Nat, n < 10 → hexv (UInt8.ofNat (48 + n)) = some n ∧ digit (UInt8.ofNat (48 + n)) = true ∧ (UInt8.ofNat (48 + n)).toNat = 48 + n ∧ (n ≠ 0 → UInt8.ofNat (48 + n) ≠ 48) := by decide +kernel
theorem decF_mem : ∀ (k n : Nat) (c : UInt8), c ∈ decF k n → digit c = true
  | 0, _, _, h => by cases h
  | k + 1, n, c, h => by
    unfold decF at h
    split at h
    · rename_i h1
      rw [List.mem_singleton.1 h]; exact (dig_v n h1).2.1
    · rcases List.mem_append.1 h with h | h
      · exact decF_mem k _ c h
      · rw [List.mem_singleton.1 h]; exact (dig_v (n % 10) (by omega)).2.1
theorem dec_mem {n : Nat} {c : UInt8} (h : c ∈ dec n) : digit c = true := decF_mem _ n c h
theorem decF_ne (k n : Nat) : decF (k + 1) n ≠ [] := by unfold decF; split <;> simp
theorem dec_ne (n : Nat) : dec n ≠ [] := decF_ne n n
/-- The first digit of what is above nought is none. -/
theorem decF_head : ∀ (k n : Nat), n < k → n ≠ 0 → ∃ c t, decF k n = c :: t ∧ c ≠ 48
  | 0, _, h, _ => by omega
  | k + 1, n, h, h0 => by
    unfold decF
    split
    · rename_i h1; exact ⟨_, [], rfl, (dig_v n h1).2.2.2 h0⟩
    · obtain ⟨c, t, e, hc⟩ := decF_head k (n / 10) (by omega) (by omega)
      exact ⟨c, t ++ [UInt8.ofNat (48 + n % 10)], by rw [e]; rfl, hc⟩
theorem decF_len1 (k n : Nat) (hn : n < k) (h : 10 ≤ n) : 2 ≤ (decF k n).length := by
  obtain ⟨k, rfl⟩ : ∃ m, k = m + 1 := ⟨k - 1, by omega⟩
  unfold decF
  rw [if_neg (by omega)]
  obtain ⟨k, rfl⟩ : ∃ m, k = m + 1 := ⟨k - 1, by omega⟩
  have := decF_ne k (n / 10)
  have h1 : 0 < (decF (k + 1) (n / 10)).length := List.length_pos_iff.2 this
  simp only [List.length_append, List.length_cons, List.length_nil]; omega
theorem numF_app (base : Nat) : ∀ (l r : Bs) (n : Nat), numF base n (l ++ r) = (numF base n l).bind fun m => numF base m r
  | [], _, _ => rfl
  | c :: t, r, n => by
    show numF base n (c :: (t ++ r)) = _
    simp only [numF]
    split
    · split
      · exact numF_app base t r _
      · rfl
    · rfl
theorem numF_dec : ∀ (k n : Nat), n < k → n ≤ 4294967296 → numF 10 0 (decF k n) = some n
  | 0, _, h, _ => by omega
  | k + 1, n, h, h2 => by
    unfold decF
    split
    · rename_i h1
      simp only [numF, (dig_v n h1).1]
      rw [if_pos h1, show min (0 * 10 + n) 4294967296 = n by omega]
    · rw [numF_app, numF_dec k (n / 10) (by omega) (by omega)]
      show numF 10 (n / 10) [UInt8.ofNat (48 + n % 10)] = _
      simp only [numF, (dig_v (n % 10) (by omega)).1]
      rw [if_pos (by omega), show min (n / 10 * 10 + n % 10) 4294967296 = n by omega]
theorem numQ_dec {n : Nat} (h : n ≤ 4294967296) : numQ (dec n) = some n := by
  have hv := numF_dec (n + 1) n (by omega) h
  unfold dec
  by_cases h10 : n < 10
  · have e : decF (n + 1) n = [UInt8.ofNat (48 + n)] := by unfold decF; rw [if_pos h10]
    rw [e] at hv ⊢
    exact hv
  · obtain ⟨c, t, e, hc⟩ := decF_head (n + 1) n (by omega) (by omega)
    have hl := decF_len1 (n + 1) n (by omega) (by omega)
    rw [e] at hv hl ⊢
    cases t with
    | nil => simp at hl
    | cons b t =>
      have e2 : (c == 48) = false := by simpa using hc
      unfold numQ
      dsimp only
      rw [e2, if_neg (by decide)]
      exact hv
theorem portF_app : ∀ (l r : Bs) (n : Nat), portF n (l ++ r) = portF (portF n l) r
  | [], _, _ => rfl
  | _ :: t, r, _ => portF_app t r _
theorem portF_one (m : Nat) (c : UInt8) : portF m [c] = min (m * 10 + (c.toNat - 48)) 65536 := rfl
theorem portF_dec : ∀ (k n : Nat), n < k → n ≤ 65536 → portF 0 (decF k n) = n
  | 0, _, h, _ => by omega
  | k + 1, n, h, h2 => by
    unfold decF
    split
    · rename_i h1
      rw [portF_one, (dig_v n h1).2.2.1]
      omega
    · rw [portF_app, portF_dec k (n / 10) (by omega) (by omega), portF_one, (dig_v (n % 10) (by omega)).2.2.1]
      omega
theorem dig_no : ∀ c : UInt8, digit c = true → c ≠ 46 ∧ c ≠ 58 ∧ c ≠ 37 ∧ low1 c = c ∧ 48 ≤ c ∧ c ≤ 57 := of_all (by decide +kernel)

/-! ### IPv4 -/
theorem printQ_eq (n : Nat) : printQ n = dec (n / 16777216 % 256) ++ 46 :: (dec (n / 65536 % 256) ++ 46 :: (dec (n / 256 % 256) ++ 46 :: dec (n % 256))) := by unfold printQ; simp
theorem dec_no46 (n : Nat) : (46 : UInt8) ∉ dec n := fun h => (dig_no 46 (dec_mem h)).1 rfl
theorem parts_printQ (n : Nat) : partsQ (printQ n) = [dec (n / 16777216 % 256), dec (n / 65536 % 256), dec (n / 256 % 256), dec (n % 256)] := by
  have e : split 46 (printQ n) = [dec (n / 16777216 % 256), dec (n / 65536 % 256), dec (n / 256 % 256), dec (n % 256)] := by
    rw [printQ_eq, split_hit' (dec_no46 _), split_hit' (dec_no46 _), split_hit' (dec_no46 _), split_miss' (dec_no46 _)]
  unfold partsQ
  rw [e]
  have : (([dec (n / 16777216 % 256), dec (n / 65536 % 256), dec (n / 256 % 256), dec (n % 256)] : List Bs).getLastD [] == []) = false := by
    rw [beq_eq_false_iff_ne]; exact dec_ne _
  rw [this, Bool.and_false, if_neg (by simp)]
theorem parseQ_printQ (n : Nat) : (parseQ (printQ n)).map printQ = some (printQ n) := by
  unfold parseQ
  rw [parts_printQ, if_neg (by simp)]
  simp only [parseF, numQ_dec (n := n / 16777216 % 256) (by omega), numQ_dec (n := n / 65536 % 256) (by omega), numQ_dec (n := n / 256 % 256) (by omega), numQ_dec (n := n % 256) (by omega)]
  rw [if_pos (by omega), if_pos (by omega), if_pos (by omega), if_pos (by omega)]
  simp only [Option.map_some]
  congr 1
  unfold printQ
  have e1 : (0 + n / 16777216 % 256 * 2 ^ (8 * (3 - 0)) + n / 65536 % 256 * 2 ^ (8 * (3 - (0 + 1))) + n / 256 % 256 * 2 ^ (8 * (3 - (0 + 1 + 1))) + n % 256) = n % 4294967296 := by
    simp only [Nat.reduceSub, Nat.reduceMul, Nat.reducePow, Nat.reduceAdd]
    omega
  rw [e1]
  have a1 : n % 4294967296 / 16777216 % 256 = n / 16777216 % 256 := by omega
  have a2 : n % 4294967296 / 65536 % 256 = n / 65536 % 256 := by omega
  have a3 : n % 4294967296 / 256 % 256 = n / 256 % 256 := by omega
  have a4 : n % 4294967296 % 256 = n % 256 := by omega
  rw [a1, a2, a3, a4]
theorem endsQ_printQ (n : Nat) : endsQ (printQ n) = true := by
  unfold endsQ
  rw [parts_printQ]
  have h1 : (([dec (n / 16777216 % 256), dec (n / 65536 % 256), dec (n / 256 % 256), dec (n % 256)] : List Bs).getLastD []) = dec (n % 256) := rfl
  rw [h1]
  have h2 : (dec (n % 256)).isEmpty = false := by
    cases hx : dec (n % 256) with
    | nil => exact absurd hx (dec_ne _)
    | cons => rfl
  have h3 : (dec (n % 256)).all digit = true := by rw [List.all_eq_true]; exact fun c hc => dec_mem hc
  rw [h2, h3]; rfl
theorem printQ_mem {n : Nat} {c : UInt8} (h : c ∈ printQ n) : c = 46 ∨ digit c = true := by
  rw [printQ_eq] at h
  simp only [List.mem_append, List.mem_cons] at h
  rcases h with h | h | h | h | h | h | h
  · exact .inr (dec_mem h)
  · exact .inl h
  · exact .inr (dec_mem h)
  · exact .inl h
  · exact .inr (dec_mem h)
  · exact .inl h
  · exact .inr (dec_mem h)

/-! ### Domains -/
theorem unescape_id : ∀ (n : Nat) {l : Bs}, l.length ≤ n → (37 : UInt8) ∉ l → unescape l = l
  | _, [], _, _ => rfl
  | _, [a], _, _ => rfl
  | _, [a, b], _, _ => rfl
  | 0, _ :: _ :: _ :: _, h, _ => by simp at h
  | n + 1, a :: b :: c :: t, h, h37 => by
    have e : (a == 37) = false := by simp at h37 ⊢; exact fun e => h37.1 e.symm
    have ih := unescape_id n (l := b :: c :: t) (by simp only [List.length_cons] at h ⊢; omega) (fun hm => h37 (by simp at hm; simp [hm]))
    unfold unescape
    rw [e]
    dsimp only
    rw [ih]
theorem low1_idem : ∀ c : UInt8, low1 (low1 c) = low1 c := of_all (by decide +kernel)
theorem lower_idem (l : Bs) : lower (lower l) = lower l := by unfold lower; rw [List.map_map]; congr 1; funext c; exact low1_idem c
theorem bad_mem {l : Bs} {d : Bool} (h : hasBad l d = false) : ∀ c ∈ l, forbidden c d = false ∧ (d = true → ¬ 126 < c) := by
  intro c hc
  unfold hasBad at h
  rw [List.any_eq_false] at h
  have := h c hc
  simp at this
  exact ⟨this.1, fun hd => by have := this.2 hd; simpa using this⟩
theorem domain_again {s h : Bs} (hd : domainH s = some h) : domainH h = some h ∧ h ≠ [] ∧ (∀ c ∈ h, forbidden c true = false ∧ ¬ 126 < c) := by
  unfold domainH at hd
  dsimp only at hd
  generalize hx : lower (unescape s) = d at hd
  have hlow : lower d = d := by rw [← hx]; exact lower_idem _
  split at hd
  · cases hd
  · rename_i hb
    simp at hb
    split at hd
    · rename_i he
      rw [Option.map_eq_some_iff] at hd
      obtain ⟨n, hn, rfl⟩ := hd
      have hmem : ∀ c ∈ printQ n, forbidden c true = false ∧ ¬ 126 < c ∧ c ≠ 37 ∧ low1 c = c := by
        intro c hc
        rcases printQ_mem hc with rfl | h
        · decide
        · have e : ∀ c : UInt8, digit c = true → forbidden c true = false ∧ ¬ 126 < c ∧ c ≠ 37 ∧ low1 c = c := of_all (by decide +kernel)
          exact e c h
      have hne : printQ n ≠ [] := by rw [printQ_eq]; simp
      refine ⟨?_, hne, fun c hc => ⟨(hmem c hc).1, (hmem c hc).2.1⟩⟩
      have e1 : unescape (printQ n) = printQ n := unescape_id _ (Nat.le_refl _) (fun h => (hmem 37 h).2.2.1 rfl)
      have e2 : lower (printQ n) = printQ n := by
        unfold lower
        conv => rhs; rw [← List.map_id (printQ n)]
        exact List.map_congr_left fun c hc => (hmem c hc).2.2.2
      have e3 : hasBad (printQ n) true = false := by
        unfold hasBad
        rw [List.any_eq_false]
        intro c hc
        obtain ⟨h1, h2, _⟩ := hmem c hc
        simp [h1]; simpa using h2
      have e4 : (printQ n).isEmpty = false := by
        cases hx : printQ n with
        | nil => exact absurd hx hne
        | cons => rfl
      unfold domainH
      dsimp only
      rw [e1, e2, e3, e4, endsQ_printQ]
      exact parseQ_printQ n
    · rename_i he
      cases hd
      have hbm := bad_mem hb.2
      refine ⟨?_, hb.1, fun c hc => ⟨(hbm c hc).1, (hbm c hc).2 rfl⟩⟩
      have e1 : unescape h = h := unescape_id _ (Nat.le_refl _) (fun hm => absurd (hbm 37 hm).1 (by decide))
      have e4 : h.isEmpty = false := by
        cases hx2 : h with
        | nil => exact absurd hx2 hb.1
        | cons => rfl
      unfold domainH
      dsimp only
      rw [e1, hlow, hb.2, e4]
      have he' : endsQ h = false := by simpa using he
      rw [he']
      rfl

/-! ### IPv6 -/
theorem pieceF_lt' : ∀ (l : Bs) (n r : Nat), pieceF n l = some r → r < (n + 1) * 16 ^ l.length
  | [], n, r, h => by simp [pieceF] at h; simp; omega
  | c :: t, n, r, h => by
    simp only [pieceF] at h
    split at h
    · rename_i d hd
      have hd16 : ∀ c : UInt8, ∀ d, hexv c = some d → d < 16 := by
        intro c d h
        have e : ∀ c : UInt8, (hexv c).all (fun d => decide (d < 16)) = true := of_all (by decide +kernel)
        have := e c
        rw [h] at this
        simpa using this
      have h16 := hd16 c d hd
      have := pieceF_lt' t _ r h
      have h2 : (n * 16 + d + 1) * 16 ^ t.length ≤ (n + 1) * 16 * 16 ^ t.length := Nat.mul_le_mul_right _ (by omega)
      simp only [List.length_cons, Nat.pow_succ]
      calc r < (n * 16 + d + 1) * 16 ^ t.length := this
        _ ≤ (n + 1) * 16 * 16 ^ t.length := h2
        _ = (n + 1) * (16 ^ t.length * 16) := by rw [Nat.mul_assoc, Nat.mul_comm 16]
    · cases h
theorem pieceS_ltv {s : Bs} {n : Nat} (h : pieceS s = some n) : n < 65536 := by
  unfold pieceS at h
  split at h
  · cases h
  · rename_i hl
    simp at hl
    have := pieceF_lt' s 0 n h
    have h2 : 16 ^ s.length ≤ 16 ^ 4 := Nat.pow_le_pow_right (by omega) (by omega)
    omega
theorem octet_lt {s : Bs} {n : Nat} (h : octet s = some n) : n ≤ 255 := by
  unfold octet at h
  split at h
  · cases h
  · dsimp only at h
    split at h
    · rename_i h1
      cases h
      simp at h1
      exact h1.1
    · cases h
theorem tailS_ltv {s : Bs} {l : List Nat} (h : tailS s = some l) : ∀ n ∈ l, n < 65536 := by
  unfold tailS at h
  split at h
  · rename_i a b c d he
    cases h
    have hm : ∀ x ∈ [some a, some b, some c, some d], ∀ y, x = some y → y ≤ 255 := by
      intro x hx y hy
      rw [← he] at hx
      obtain ⟨t, _, ht⟩ := List.mem_map.1 hx
      exact octet_lt (ht.trans hy)
    have ha := hm (some a) (by simp) a rfl
    have hb := hm (some b) (by simp) b rfl
    have hc := hm (some c) (by simp) c rfl
    have hd := hm (some d) (by simp) d rfl
    intro n hn
    simp at hn
    omega
  · cases h
theorem runF_ltv (last : Bool) : ∀ (p : List Bs) {l : List Nat}, runF last p = some l → ∀ n ∈ l, n < 65536
  | [], l, h => by simp [runF] at h; subst h; simp
  | [p], l, h => by
    simp only [runF] at h
    split at h
    · exact tailS_ltv h
    · rw [Option.map_eq_some_iff] at h
      obtain ⟨n, hn, rfl⟩ := h
      intro m hm
      simp at hm; subst hm
      exact pieceS_ltv hn
  | p :: q :: r, l, h => by
    simp only [runF] at h
    split at h
    · rename_i n hn
      rw [Option.map_eq_some_iff] at h
      obtain ⟨t, ht, rfl⟩ := h
      intro m hm
      rcases List.mem_cons.1 hm with rfl | hm
      · exact pieceS_ltv hn
      · exact runF_ltv last (q :: r) ht m hm
    · cases h
theorem runS_ltv {s : Bs} {last : Bool} {l : List Nat} (h : runS s last = some l) : ∀ n ∈ l, n < 65536 := by
  unfold runS at h
  split at h
  · cases h; simp
  · exact runF_ltv last _ h
theorem parseS_ltv {s : Bs} {a : List Nat} (h : parseS s = some a) : a.length = 8 ∧ ∀ n ∈ a, n < 65536 := by
  unfold parseS at h
  split at h
  · split at h
    · rename_i l hl
      split at h
      · rename_i h8; cases h; exact ⟨h8, runS_ltv hl⟩
      · cases h
    · cases h
  · split at h
    · rename_i x y _ a b ha hb
      split at h
      · cases h
      · rename_i h8
        simp at h8
        cases h
        refine ⟨by simp; omega, fun n hn => ?_⟩
        simp only [List.mem_append, List.mem_replicate] at hn
        rcases hn with (hn | hn) | hn
        · exact runS_ltv ha n hn
        · omega
        · exact runS_ltv hb n hn
    · cases h
theorem literal_again {s h : Bs} (hl : literal s = some h) : ∃ a : List Nat, h = 91 :: (printS a ++ [93]) ∧ literal h = some h := by
  unfold literal at hl
  split at hl
  · rw [Option.map_eq_some_iff] at hl
    obtain ⟨a, ha, rfl⟩ := hl
    obtain ⟨h8, hlt⟩ := parseS_ltv ha
    refine ⟨a, by simp, ?_⟩
    unfold literal
    have e1 : ([91] ++ printS a ++ [93] : Bs).drop 1 = printS a ++ [93] := by simp
    rw [e1]
    have e2 : (printS a ++ [93]).getLast? = some 93 := by simp
    have e3 : (printS a ++ [93]).dropLast = printS a := by simp
    rw [e2, e3, parseS_printS h8 hlt]
    rfl
  · cases hl
end Go.Proofs.YtfonfcbibdfplaaGreatDoor

/- What a URL that was read keeps to, and that such a URL, written, is read as it: plain laws. No condition. -/
namespace Go.Proofs.YtfonfcbibdfplaaGreatDoor

/-! ### Hosts -/
structure HostOk (sp : Bool) (h : Bs) : Prop where
  same : hostP h sp = some h
  mem : ∀ c ∈ h, 33 ≤ c ∧ c ≤ 126 ∧ c ≠ 47 ∧ c ≠ 92 ∧ c ≠ 63 ∧ c ≠ 35 ∧ c ≠ 64 ∧ c ≠ 124
  col : ∀ (k : Nat) (r : Bs), colonF k false (h ++ r) = colonF (k + h.length) false r
  ne : sp = true → h ≠ []
  drv : drive h = false
theorem colonF_skip : ∀ {l : Bs} (_ : ∀ c ∈ l, c ≠ 58 ∧ c ≠ 91 ∧ c ≠ 93) (k : Nat) (r : Bs), colonF k false (l ++ r) = colonF (k + l.length) false r
  | [], _, _, _ => rfl
  | c :: t, h, k, r => by
    obtain ⟨h1, h2, h3⟩ := h c (by simp)
    have e1 : (c == 58) = false := by simpa using h1
    have e2 : (c == 91) = false := by simpa using h2
    have e3 : (c == 93) = false := by simpa using h3
    show colonF k false (c :: (t ++ r)) = _
    simp only [colonF, e1, e2, e3, Bool.false_and, Bool.false_eq_true, if_false]
    rw [colonF_skip (fun x hx => h x (by simp [hx])) (k + 1) r, List.length_cons]
    congr 1; omega
theorem colonF_in : ∀ {l : Bs} (_ : ∀ c ∈ l, c ≠ 91 ∧ c ≠ 93) (k : Nat) (r : Bs), colonF k true (l ++ r) = colonF (k + l.length) true r
  | [], _, _, _ => rfl
  | c :: t, h, k, r => by
    obtain ⟨h2, h3⟩ := h c (by simp)
    have e2 : (c == 91) = false := by simpa using h2
    have e3 : (c == 93) = false := by simpa using h3
    show colonF k true (c :: (t ++ r)) = _
    simp only [colonF, e2, e3, Bool.not_true, Bool.and_false, Bool.false_eq_true, if_false]
    rw [colonF_in (fun x hx => h x (by simp [hx])) (k + 1) r, List.length_cons]
    congr 1; omega
theorem plain_of1 : ∀ c : UInt8, forbidden c false = false ∧ 32 ≤ c ∧ c ≤ 126 → 33 ≤ c ∧ c ≤ 126 ∧ c ≠ 47 ∧ c ≠ 92 := of_all (by decide +kernel)
theorem plain_of2 : ∀ c : UInt8, forbidden c false = false ∧ 32 ≤ c ∧ c ≤ 126 → c ≠ 63 ∧ c ≠ 35 ∧ c ≠ 64 ∧ c ≠ 124 := of_all (by decide +kernel)
theorem plain_of3 : ∀ c : UInt8, forbidden c false = false ∧ 32 ≤ c ∧ c ≤ 126 → c ≠ 58 ∧ c ≠ 91 ∧ c ≠ 93 := of_all (by decide +kernel)
theorem plain_of : ∀ c : UInt8, forbidden c false = false ∧ 32 ≤ c ∧ c ≤ 126 → (33 ≤ c ∧ c ≤ 126 ∧ c ≠ 47 ∧ c ≠ 92 ∧ c ≠ 63 ∧ c ≠ 35 ∧ c ≠ 64 ∧ c ≠ 124) ∧ c ≠ 58 ∧ c ≠ 91 ∧ c ≠ 93 := fun c h0 => ⟨⟨(plain_of1 c h0).1, (plain_of1 c h0).2.1, (plain_of1 c h0).2.2.1, (plain_of1 c h0).2.2.2, plain_of2 c h0⟩, plain_of3 c h0⟩
theorem plain_dom1 : ∀ c : UInt8, forbidden c true = false → ¬ 126 < c → 33 ≤ c ∧ c ≤ 126 ∧ c ≠ 47 ∧ c ≠ 92 := of_all (by decide +kernel)
theorem plain_dom2 : ∀ c : UInt8, forbidden c true = false → ¬ 126 < c → c ≠ 63 ∧ c ≠ 35 ∧ c ≠ 64 ∧ c ≠ 124 := of_all (by decide +kernel)
theorem plain_dom3 : ∀ c : UInt8, forbidden c true = false → ¬ 126 < c → c ≠ 58 ∧ c ≠ 91 ∧ c ≠ 93 := of_all (by decide +kernel)
theorem plain_dom : ∀ c : UInt8, forbidden c true = false → ¬ 126 < c → (33 ≤ c ∧ c ≤ 126 ∧ c ≠ 47 ∧ c ≠ 92 ∧ c ≠ 63 ∧ c ≠ 35 ∧ c ≠ 64 ∧ c ≠ 124) ∧ c ≠ 58 ∧ c ≠ 91 ∧ c ≠ 93 := fun c h0 h1 => ⟨⟨(plain_dom1 c h0 h1).1, (plain_dom1 c h0 h1).2.1, (plain_dom1 c h0 h1).2.2.1, (plain_dom1 c h0 h1).2.2.2, plain_dom2 c h0 h1⟩, plain_dom3 c h0 h1⟩
theorem plain_esc : ∀ c : UInt8, (c = 37 ∨ (48 ≤ c ∧ c ≤ 57) ∨ (65 ≤ c ∧ c ≤ 70)) → forbidden c false = false ∧ 32 ≤ c ∧ c ≤ 126 := of_all (by decide +kernel)
theorem set0_range : ∀ c : UInt8, inSet 0 c = false → 32 ≤ c ∧ c ≤ 126 := of_all (by decide +kernel)
theorem plain_hex1 : ∀ c : UInt8, (c = 58 ∨ (48 ≤ c ∧ c ≤ 57) ∨ (97 ≤ c ∧ c ≤ 102)) → 33 ≤ c ∧ c ≤ 126 ∧ c ≠ 47 ∧ c ≠ 92 := of_all (by decide +kernel)
theorem plain_hex2 : ∀ c : UInt8, (c = 58 ∨ (48 ≤ c ∧ c ≤ 57) ∨ (97 ≤ c ∧ c ≤ 102)) → c ≠ 63 ∧ c ≠ 35 ∧ c ≠ 64 ∧ c ≠ 124 := of_all (by decide +kernel)
theorem plain_hex3 : ∀ c : UInt8, (c = 58 ∨ (48 ≤ c ∧ c ≤ 57) ∨ (97 ≤ c ∧ c ≤ 102)) → c ≠ 91 ∧ c ≠ 93 := of_all (by decide +kernel)
theorem plain_hex : ∀ c : UInt8, (c = 58 ∨ (48 ≤ c ∧ c ≤ 57) ∨ (97 ≤ c ∧ c ≤ 102)) → (33 ≤ c ∧ c ≤ 126 ∧ c ≠ 47 ∧ c ≠ 92 ∧ c ≠ 63 ∧ c ≠ 35 ∧ c ≠ 64 ∧ c ≠ 124) ∧ c ≠ 91 ∧ c ≠ 93 := fun c h0 => ⟨⟨(plain_hex1 c h0).1, (plain_hex1 c h0).2.1, (plain_hex1 c h0).2.2.1, (plain_hex1 c h0).2.2.2, plain_hex2 c h0⟩, plain_hex3 c h0⟩
theorem drive_no {h : Bs} (h1 : ∀ c ∈ h, c ≠ 58 ∧ c ≠ 124) : drive h = false := by
  cases hd : drive h with
  | false => rfl
  | true =>
    obtain ⟨a, b, rfl, _, hb⟩ := drive_two hd
    rcases hb with rfl | rfl
    · exact absurd rfl (h1 58 (by simp)).1
    · exact absurd rfl (h1 124 (by simp)).2
theorem head_no {h : Bs} (h1 : ∀ c ∈ h, c ≠ 91) : (h.head? == some 91) = false := by
  cases h with
  | nil => rfl
  | cons c t => have := h1 c (by simp); simpa using this
theorem hostP_ok {s h : Bs} {sp : Bool} (hs : hostP s sp = some h) : HostOk sp h := by
  unfold hostP at hs
  split at hs
  · obtain ⟨a, rfl, hl⟩ := literal_again hs
    have hm : ∀ c ∈ printS a, (33 ≤ c ∧ c ≤ 126 ∧ c ≠ 47 ∧ c ≠ 92 ∧ c ≠ 63 ∧ c ≠ 35 ∧ c ≠ 64 ∧ c ≠ 124) ∧ c ≠ 91 ∧ c ≠ 93 := fun c hc => plain_hex c (printS_mem hc)
    refine ⟨?_, ?_, ?_, fun _ => by simp, ?_⟩
    · unfold hostP; rw [if_pos (by simp)]; exact hl
    · intro c hc
      simp only [List.mem_cons, List.mem_append, List.not_mem_nil, or_false] at hc
      rcases hc with rfl | hc | rfl
      · decide
      · exact (hm c hc).1
      · decide
    · intro k r
      have e : colonF k false (91 :: (printS a ++ [93]) ++ r) = colonF (k + 1) true (printS a ++ 93 :: r) := by
        rw [List.cons_append, List.append_assoc]; rfl
      rw [e, colonF_in (fun c hc => (hm c hc).2)]
      show colonF (k + 1 + (printS a).length + 1) false r = _
      congr 1
      simp only [List.length_cons, List.length_append, List.length_nil]; omega
    · cases hd : drive (91 :: (printS a ++ [93])) with
      | false => rfl
      | true =>
        obtain ⟨x, y, he, hl, _⟩ := drive_two hd
        simp at he
        rw [← he.1] at hl
        exact absurd hl (by decide)
  · split at hs
    · rename_i hsp
      obtain ⟨h1, h2, h3⟩ := domain_again hs
      have hm : ∀ c ∈ h, (33 ≤ c ∧ c ≤ 126 ∧ c ≠ 47 ∧ c ≠ 92 ∧ c ≠ 63 ∧ c ≠ 35 ∧ c ≠ 64 ∧ c ≠ 124) ∧ c ≠ 58 ∧ c ≠ 91 ∧ c ≠ 93 := fun c hc => plain_dom c (h3 c hc).1 (h3 c hc).2
      refine ⟨?_, fun c hc => (hm c hc).1, fun k r => colonF_skip (fun c hc => (hm c hc).2) k r, fun _ => h2, drive_no fun c hc => ⟨(hm c hc).2.1, (hm c hc).1.2.2.2.2.2.2.2⟩⟩
      unfold hostP
      rw [head_no (fun c hc => (hm c hc).2.2.1), hsp]
      exact h1
    · rename_i hsp
      split at hs
      · cases hs
      · rename_i hb
        cases hs
        have hb' : hasBad s false = false := by simpa using hb
        have hm : ∀ c ∈ escape 0 s, forbidden c false = false ∧ 32 ≤ c ∧ c ≤ 126 := by
          intro c hc
          rcases escape_mem hc with ⟨h1, h2⟩ | h1
          · exact ⟨(bad_mem hb' c h1).1, set0_range c h2⟩
          · exact plain_esc c h1
        have hm2 := fun c hc => plain_of c (hm c hc)
        refine ⟨?_, fun c hc => (hm2 c hc).1, fun k r => colonF_skip (fun c hc => (hm2 c hc).2) k r, fun h => absurd h hsp, drive_no fun c hc => ⟨(hm2 c hc).2.1, (hm2 c hc).1.2.2.2.2.2.2.2⟩⟩
        unfold hostP
        have e : hasBad (escape 0 s) false = false := by
          unfold hasBad
          rw [List.any_eq_false]
          intro c hc
          simp [(hm c hc).1]
        have hsp' : sp = false := by simpa using hsp
        rw [head_no (fun c hc => (hm2 c hc).2.2.1), hsp', e, escape_twice (by omega)]
        rfl

/-! ### What a URL that was read keeps to -/
structure Can (u : Url) : Prop where
  s0 : ∃ c t, u.scheme = c :: t ∧ letter c = true
  s1 : ∀ c ∈ u.scheme, schemeC c = true
  s2 : lower u.scheme = u.scheme
  qo : u.hasQ = false → u.query = []
  fo : u.hasF = false → u.frag = []
  q : okC (if special u.scheme then 3 else 2) u.query
  f : okC 1 u.frag
  opq : u.opq = true → special u.scheme = false ∧ u.hasHost = false ∧ u.path = [] ∧ okC 0 u.text ∧ u.text.head? ≠ some 47 ∧ u.text.getLast? ≠ some 32 ∧ (63 : UInt8) ∉ u.text ∧ (35 : UInt8) ∉ u.text
  txt : u.opq = false → u.text = []
  noh : u.hasHost = false → u.user = [] ∧ u.pass = [] ∧ u.host = [] ∧ u.port = -1 ∧ special u.scheme = false
  pne : u.opq = false → (u.hasHost = false ∨ special u.scheme = true) → u.path ≠ []
  p : POk (u.scheme == sFile) (special u.scheme) u.path
  host : u.hasHost = true → (u.scheme = sFile ∧ u.host = []) ∨ HostOk (special u.scheme) u.host
  loc : u.scheme = sFile → u.host ≠ sLocal
  cu : okC 5 u.user
  cp : okC 5 u.pass
  ch : (u.user ≠ [] ∨ u.pass ≠ []) → u.host ≠ []
  port : u.port = -1 ∨ (0 ≤ u.port ∧ u.port ≤ 65535 ∧ u.port ≠ defPort u.scheme ∧ u.host ≠ [])
  file : u.scheme = sFile → u.hasHost = true ∧ u.user = [] ∧ u.pass = [] ∧ u.port = -1

/-! ### Cleaning what is clean -/
theorem dropWhile_head' {l : Bs} (h : ∀ c, l.head? = some c → blank c = false) : l.dropWhile blank = l := by
  cases l with
  | nil => rfl
  | cons c t => rw [List.dropWhile_cons, h c rfl]; rfl
theorem clean_id {l : Bs} (h : ∀ c ∈ l, 32 ≤ c ∧ c ≤ 126) (h1 : l.head? ≠ some 32) (h2 : l.getLast? ≠ some 32) : clean l = l := by
  have hp : plainB l := by
    intro c hc
    have e : ∀ c : UInt8, 32 ≤ c → c ≤ 126 → c < 128 := of_all (by decide +kernel)
    exact e c (h c hc).1 (h c hc).2
  have hb : ∀ c ∈ l, c ≠ 32 → blank c = false := by
    intro c hc hne
    have e : ∀ c : UInt8, 32 ≤ c → c ≠ 32 → blank c = false := of_all (by decide +kernel)
    exact e c (h c hc).1 hne
  rw [clean_eq, fix_plain hp]
  have ht : trimB l = l := by
    unfold trimB
    rw [dropWhile_head' (l := l) (fun c hc => hb c (List.mem_of_head? hc) (fun e => h1 (by rw [hc, e])))]
    rw [dropWhile_head' (l := l.reverse) (fun c hc => hb c (by rw [List.head?_reverse] at hc; exact List.mem_of_getLast? hc) (fun e => h2 (by rw [List.head?_reverse] at hc; rw [hc, e])))]
    rw [List.reverse_reverse]
  rw [ht]
  unfold dropWs
  rw [List.filter_eq_self]
  intro c hc
  have e : ∀ c : UInt8, 32 ≤ c → (!(c == 9 || c == 10 || c == 13)) = true := of_all (by decide +kernel)
  exact e c (h c hc).1

/-! ### Whom a URL means -/
def hpT (u : Url) : Bs := u.host ++ (if u.port = -1 then [] else 58 :: itoa u.port)
def whomT (u : Url) : Bs := if u.user.isEmpty && u.pass.isEmpty then hpT u else u.user ++ (if u.pass.isEmpty then [] else 58 :: u.pass) ++ 64 :: hpT u
theorem authU_eq {u : Url} (h : u.hasHost = true) : authU u = 47 :: 47 :: whomT u := by
  unfold authU whomT hpT
  rw [h]
  cases hu : u.user with
  | nil => cases hp : u.pass <;> simp
  | cons a t => cases hp : u.pass <;> simp
theorem lastAt_some {a b : Bs} (h : (64 : UInt8) ∉ b) : lastAt (a ++ 64 :: b) = some (a, b) := by
  have hx : ∀ x ∈ b.reverse, (x != 64) = true := by
    intro x hx
    have : x ≠ 64 := fun e => h (by rw [e] at hx; simpa using hx)
    simp [this]
  unfold lastAt
  rw [if_pos (by simp), List.reverse_append, List.reverse_cons, List.append_assoc, List.dropWhile_append_of_pos hx, List.takeWhile_append_of_pos hx]
  simp
theorem lastAt_none {a : Bs} (h : (64 : UInt8) ∉ a) : lastAt a = none := by
  unfold lastAt
  rw [if_neg (by simpa using h)]
theorem itoa_nat {n : Int} (h : 0 ≤ n) : itoa n = dec n.toNat := by unfold itoa; rw [if_neg (by omega)]
theorem set5_facts : ∀ c : UInt8, inSet 5 c = false → c ≠ 47 ∧ c ≠ 92 ∧ c ≠ 58 ∧ c ≠ 64 ∧ c ≠ 63 ∧ c ≠ 35 ∧ 33 ≤ c ∧ c ≤ 126 := of_all (by decide +kernel)
theorem digit_facts : ∀ c : UInt8, digit c = true → c ≠ 47 ∧ c ≠ 92 ∧ c ≠ 58 ∧ c ≠ 64 ∧ c ≠ 63 ∧ c ≠ 35 ∧ 33 ≤ c ∧ c ≤ 126 := of_all (by decide +kernel)
theorem Can.hostMem {u : Url} (hc : Can u) : ∀ c ∈ u.host, 33 ≤ c ∧ c ≤ 126 ∧ c ≠ 47 ∧ c ≠ 92 ∧ c ≠ 63 ∧ c ≠ 35 ∧ c ≠ 64 ∧ c ≠ 124 := by
  intro c h
  cases hh : u.hasHost with
  | false => rw [(hc.noh hh).2.2.1] at h; cases h
  | true =>
    rcases hc.host hh with ⟨_, h0⟩ | h1
    · rw [h0] at h; cases h
    · exact h1.mem c h
theorem Can.hpMem {u : Url} (hc : Can u) : ∀ c ∈ hpT u, c ≠ 47 ∧ c ≠ 92 ∧ c ≠ 64 ∧ c ≠ 63 ∧ c ≠ 35 ∧ 33 ≤ c ∧ c ≤ 126 := by
  intro c h
  unfold hpT at h
  rcases List.mem_append.1 h with h | h
  · obtain ⟨h1, h2, h3, h4, h5, h6, h7, _⟩ := hc.hostMem c h
    exact ⟨h3, h4, h7, h5, h6, h1, h2⟩
  · split at h
    · cases h
    · rename_i hp
      rcases hc.port with h0 | ⟨h0, _⟩
      · exact absurd h0 hp
      · rw [itoa_nat h0] at h
        rcases List.mem_cons.1 h with rfl | h
        · decide
        · obtain ⟨h1, h2, h3, h4, h5, h6, h7, h8⟩ := digit_facts c (dec_mem h)
          exact ⟨h1, h2, h4, h5, h6, h7, h8⟩
theorem Can.whomMem {u : Url} (hc : Can u) : ∀ c ∈ whomT u, c ≠ 47 ∧ c ≠ 92 ∧ c ≠ 63 ∧ c ≠ 35 ∧ 33 ≤ c ∧ c ≤ 126 := by
  have hp := fun c (h : c ∈ hpT u) => (show c ≠ 47 ∧ c ≠ 92 ∧ c ≠ 63 ∧ c ≠ 35 ∧ 33 ≤ c ∧ c ≤ 126 from by obtain ⟨h1, h2, h3, h4, h5, h6, h7⟩ := hc.hpMem c h; exact ⟨h1, h2, h4, h5, h6, h7⟩)
  have h5 : ∀ c, inSet 5 c = false → c ≠ 47 ∧ c ≠ 92 ∧ c ≠ 63 ∧ c ≠ 35 ∧ 33 ≤ c ∧ c ≤ 126 := fun c h => by obtain ⟨h1, h2, h3, h4, h5, h6, h7, h8⟩ := set5_facts c h; exact ⟨h1, h2, h5, h6, h7, h8⟩
  intro c h
  unfold whomT at h
  split at h
  · exact hp c h
  · simp only [List.mem_append, List.mem_cons] at h
    rcases h with (h | h) | h | h
    · exact h5 c (hc.cu c h)
    · split at h
      · cases h
      · rcases List.mem_cons.1 h with rfl | h
        · decide
        · exact h5 c (hc.cp c h)
    · subst h; decide
    · exact hp c h
theorem colon_hp {u : Url} (hh : HostOk (special u.scheme) u.host) : colon (hpT u) = if u.port = -1 then none else some u.host.length := by
  unfold colon hpT
  rw [hh.col 0]
  split
  · rfl
  · show (if (58 : UInt8) == 91 then _ else _) = _
    simp
/-- A host and a port, written, are read as they. -/
theorem meet_again {u : Url} (hc : Can u) (hh : HostOk (special u.scheme) u.host) {p : PS} (hs : p.u.scheme = u.scheme) (hpo : p.u.port = -1) (hb : p.bad = false) :
    meet p (hpT u) = { p with u := { p.u with hasHost := true, host := u.host, port := u.port } } := by
  have hsame : hostP u.host (special p.u.scheme) = some u.host := by rw [hs]; exact hh.same
  unfold meet
  rw [colon_hp hh]
  by_cases h0 : u.port = -1
  · rw [if_pos h0]
    dsimp only
    have e : hpT u = u.host := by unfold hpT; rw [if_pos h0]; simp
    unfold hostPut
    rw [e, hsame, h0, ← hpo]
  · rw [if_neg h0]
    dsimp only
    obtain ⟨h1, h2, h3, h4⟩ : 0 ≤ u.port ∧ u.port ≤ 65535 ∧ u.port ≠ defPort u.scheme ∧ u.host ≠ [] := by
      rcases hc.port with h | h
      · exact absurd h h0
      · exact h
    have e1 : (hpT u).drop (u.host.length + 1) = dec u.port.toNat := by
      unfold hpT; rw [if_neg h0, itoa_nat h1, List.drop_append, List.drop_of_length_le (by omega)]
      simp
    have e2 : (hpT u).take u.host.length = u.host := by unfold hpT; simp
    have e3 : portP p (dec u.port.toNat) = (u.port, true) := by
      unfold portP
      have ha : (dec u.port.toNat).all digit = true := by rw [List.all_eq_true]; exact fun c hc => dec_mem hc
      have hem : (dec u.port.toNat).isEmpty = false := by
        cases hx : dec u.port.toNat with
        | nil => exact absurd hx (dec_ne _)
        | cons => rfl
      have hv : portF 0 (dec u.port.toNat) = u.port.toNat := portF_dec _ _ (by omega) (by omega)
      rw [ha, if_pos rfl, hv]
      dsimp only
      have hn : ((u.port.toNat : Nat) : Int) = u.port := by omega
      have hne : (((u.port.toNat : Nat) : Int) == defPort p.u.scheme) = false := by rw [hn, hs]; simpa using h3
      rw [hem, hne, Bool.false_or, if_neg (by simp), hn]
      have : u.port.toNat ≤ 65535 := by omega
      simp [this]
    have e4 : (u.host.length == 0) = false := by
      rw [beq_eq_false_iff_ne]; exact fun h => h4 (List.eq_nil_of_length_eq_zero h)
    rw [e1, e2, e3, hb, e4]
    unfold hostPut
    dsimp only
    rw [hsame]
    rfl
end Go.Proofs.YtfonfcbibdfplaaGreatDoor

/- A URL that keeps to what is read, written, is read as it: plain law. No condition. -/
namespace Go.Proofs.YtfonfcbibdfplaaGreatDoor

def dotT (u : Url) : Bs := if !u.hasHost && !u.opq && decide (1 < u.path.length) && (u.path.headD []).isEmpty then [47, 46] else []
def restT (u : Url) : Bs := authU u ++ dotT u ++ pathU u
theorem bare_eq (u : Url) : bare u = (u.scheme ++ 58 :: restT u) ++ (if u.hasQ then 63 :: u.query else []) := by
  unfold bare restT dotT; simp
theorem printU_eq (u : Url) : printU u = bare u ++ (if u.hasF then 35 :: u.frag else []) := by
  unfold printU; split <;> simp
theorem pathU_eq {u : Url} (h : u.opq = false) : pathU u = pathT u.path := by unfold pathU; rw [h]; rfl
theorem schemeC_facts : ∀ c : UInt8, schemeC c = true → c ≠ 58 ∧ c ≠ 63 ∧ c ≠ 35 ∧ 33 ≤ c ∧ c ≤ 126 := of_all (by decide +kernel)
theorem set4_facts : ∀ c : UInt8, inSet 4 c = false → c ≠ 63 ∧ c ≠ 35 ∧ 33 ≤ c ∧ c ≤ 126 := of_all (by decide +kernel)
theorem set1_facts : ∀ c : UInt8, inSet 1 c = false → 33 ≤ c ∧ c ≤ 126 := of_all (by decide +kernel)
theorem set2_facts : ∀ c : UInt8, inSet 2 c = false → c ≠ 35 ∧ 33 ≤ c ∧ c ≤ 126 := of_all (by decide +kernel)
theorem set3_facts : ∀ c : UInt8, inSet 3 c = false → c ≠ 35 ∧ 33 ≤ c ∧ c ≤ 126 := of_all (by decide +kernel)
theorem ge33 : ∀ c : UInt8, 33 ≤ c → 32 ≤ c ∧ c ≠ 32 := of_all (by decide +kernel)
theorem Can.no58 {u : Url} (hc : Can u) : (58 : UInt8) ∉ u.scheme := fun h => (schemeC_facts 58 (hc.s1 58 h)).1 rfl
theorem Can.schemeP {u : Url} (hc : Can u) (r : Bs) : Proofs.YtfonfcbibdfplaaGreatDoor.schemeP (u.scheme ++ 58 :: r) = some (u.scheme, r) := by
  have hx : ∀ x ∈ u.scheme, (x != 58) = true := by
    intro x hx
    have : x ≠ 58 := fun e => hc.no58 (e ▸ hx)
    simp [this]
  have ht : (u.scheme ++ 58 :: r).takeWhile (· != 58) = u.scheme := by rw [List.takeWhile_append_of_pos hx]; simp
  have hd : (u.scheme ++ 58 :: r).dropWhile (· != 58) = 58 :: r := by rw [List.dropWhile_append_of_pos hx]; simp
  obtain ⟨c, t, he, hl⟩ := hc.s0
  unfold Proofs.YtfonfcbibdfplaaGreatDoor.schemeP
  rw [ht, hd, hc.s2]
  have h1 : (u.scheme ++ 58 :: r).contains 58 = true := by simp
  have h2 : u.scheme.all schemeC = true := by rw [List.all_eq_true]; exact hc.s1
  rw [h1, h2, he]
  simp [hl]
/-- The bytes behind a scheme. -/
theorem Can.restMem {u : Url} (hc : Can u) : ∀ c ∈ restT u, c ≠ 63 ∧ c ≠ 35 ∧ 32 ≤ c ∧ c ≤ 126 ∧ (u.opq = false → c ≠ 32) := by
  intro c h
  unfold restT at h
  simp only [List.mem_append] at h
  rcases h with (h | h) | h
  · cases hh : u.hasHost with
    | false => unfold authU at h; rw [hh] at h; cases h
    | true =>
      rw [authU_eq hh] at h
      rcases List.mem_cons.1 h with rfl | h
      · exact ⟨by decide, by decide, by decide, by decide, fun _ => by decide⟩
      · rcases List.mem_cons.1 h with rfl | h
        · exact ⟨by decide, by decide, by decide, by decide, fun _ => by decide⟩
        · obtain ⟨_, _, h3, h4, h5, h6⟩ := hc.whomMem c h
          exact ⟨h3, h4, (ge33 c h5).1, h6, fun _ => (ge33 c h5).2⟩
  · unfold dotT at h
    split at h
    · simp at h
      rcases h with rfl | rfl
      · exact ⟨by decide, by decide, by decide, by decide, fun _ => by decide⟩
      · exact ⟨by decide, by decide, by decide, by decide, fun _ => by decide⟩
    · cases h
  · cases ho : u.opq with
    | true =>
      obtain ⟨_, _, _, h4, _, _, h7, h8⟩ := hc.opq ho
      unfold pathU at h
      rw [ho] at h
      have hr := set0_range c (h4 c h)
      exact ⟨fun e => h7 (e ▸ h), fun e => h8 (e ▸ h), hr.1, hr.2, fun h => by cases h⟩
    | false =>
      rw [pathU_eq ho] at h
      rcases pathT_mem h with rfl | ⟨x, hx, h⟩
      · exact ⟨by decide, by decide, by decide, by decide, fun _ => by decide⟩
      · obtain ⟨h1, h2, h3, h4⟩ := set4_facts c ((hc.p.seg x hx).ok c h)
        exact ⟨h1, h2, (ge33 c h3).1, h4, fun _ => (ge33 c h3).2⟩
theorem last_app {l : Bs} {c : UInt8} {r : Bs} : (l ++ c :: r).getLast? = (c :: r).getLast? := by rw [List.getLast?_append]; cases h : (c :: r).getLast? with | none => simp at h | some x => rfl
theorem last_ne {l : Bs} (h : ∀ c ∈ l, c ≠ 32) : l.getLast? ≠ some 32 := fun e => h 32 (List.mem_of_getLast? e) rfl
theorem Can.qMem {u : Url} (hc : Can u) : ∀ c ∈ u.query, c ≠ 35 ∧ 33 ≤ c ∧ c ≤ 126 := by
  intro c h
  have := hc.q c h
  split at this
  · exact set3_facts c this
  · exact set2_facts c this
theorem Can.clean {u : Url} (hc : Can u) : Proofs.YtfonfcbibdfplaaGreatDoor.clean (printU u) = printU u := by
  have hs : ∀ c ∈ u.scheme, 33 ≤ c ∧ c ≤ 126 := fun c h => (schemeC_facts c (hc.s1 c h)).2.2.2
  have hf : ∀ c ∈ u.frag, 33 ≤ c ∧ c ≤ 126 := fun c h => set1_facts c (hc.f c h)
  apply clean_id
  · intro c h
    rw [printU_eq, bare_eq] at h
    simp only [List.mem_append, List.mem_cons] at h
    rcases h with ((h | rfl | h) | h) | h
    · exact ⟨(ge33 c (hs c h).1).1, (hs c h).2⟩
    · decide
    · obtain ⟨_, _, h3, h4, _⟩ := hc.restMem c h; exact ⟨h3, h4⟩
    · split at h
      · rcases List.mem_cons.1 h with rfl | h
        · decide
        · obtain ⟨_, h2, h3⟩ := hc.qMem c h; exact ⟨(ge33 c h2).1, h3⟩
      · cases h
    · split at h
      · rcases List.mem_cons.1 h with rfl | h
        · decide
        · exact ⟨(ge33 c (hf c h).1).1, (hf c h).2⟩
      · cases h
  · obtain ⟨c, t, he, hl⟩ := hc.s0
    rw [printU_eq, bare_eq, he]
    simp only [List.cons_append, List.head?_cons, ne_eq, Option.some.injEq]
    intro e
    rw [e] at hl
    exact absurd hl (by decide)
  · rw [printU_eq]
    split
    · rw [last_app]
      refine last_ne fun c h => ?_
      rcases List.mem_cons.1 h with rfl | h
      · decide
      · exact (ge33 c (hf c h).1).2
    · rw [List.append_nil, bare_eq]
      split
      · rw [last_app]
        refine last_ne fun c h => ?_
        rcases List.mem_cons.1 h with rfl | h
        · decide
        · exact (ge33 c (hc.qMem c h).2.1).2
      · rw [List.append_nil, last_app]
        cases ho : u.opq with
        | false =>
          refine last_ne fun c h => ?_
          rcases List.mem_cons.1 h with rfl | h
          · decide
          · exact (hc.restMem c h).2.2.2.2 ho
        | true =>
          obtain ⟨_, hh, _, _, _, h6, _⟩ := hc.opq ho
          have e : restT u = u.text := by
            unfold restT dotT authU pathU; rw [hh, ho]; simp
          rw [e]
          cases ht : u.text with
          | nil => decide
          | cons a t =>
            rw [ht] at h6
            rw [show (58 :: a :: t : Bs) = [58] ++ a :: t from rfl, last_app]
            exact h6
def startT (u : Url) : PS := ⟨{ Url.zero with port := -1, scheme := u.scheme, hasQ := u.hasQ, hasF := u.hasF }, none, restT u, u.query, u.frag, false⟩
theorem Can.start {u : Url} (hc : Can u) : Proofs.YtfonfcbibdfplaaGreatDoor.start (printU u) none = startT u ∧ hasScheme (printU u) = true := by
  have n63 : (63 : UInt8) ∉ u.scheme ++ 58 :: restT u := by
    intro h
    simp only [List.mem_append, List.mem_cons] at h
    rcases h with h | h | h
    · exact (schemeC_facts 63 (hc.s1 63 h)).2.1 rfl
    · exact absurd h (by decide)
    · exact (hc.restMem 63 h).1 rfl
  have n35 : (35 : UInt8) ∉ bare u := by
    rw [bare_eq]
    intro h
    simp only [List.mem_append, List.mem_cons] at h
    rcases h with (h | h | h) | h
    · exact (schemeC_facts 35 (hc.s1 35 h)).2.2.1 rfl
    · exact absurd h (by decide)
    · exact (hc.restMem 35 h).2.1 rfl
    · split at h
      · rcases List.mem_cons.1 h with h | h
        · exact absurd h (by decide)
        · exact (hc.qMem 35 h).1 rfl
      · cases h
  have c1 : cut1 35 (printU u) = (bare u, u.frag, u.hasF) := by
    rw [printU_eq]
    cases hf : u.hasF with
    | true => exact cut1_hit n35 _
    | false =>
      rw [if_neg (by simp), List.append_nil, hc.fo hf]
      exact cut1_miss n35
  have c2 : cut1 63 (bare u) = (u.scheme ++ 58 :: restT u, u.query, u.hasQ) := by
    rw [bare_eq]
    cases hf : u.hasQ with
    | true => exact cut1_hit n63 _
    | false =>
      rw [if_neg (by simp), List.append_nil, hc.qo hf]
      exact cut1_miss n63
  constructor
  · unfold Proofs.YtfonfcbibdfplaaGreatDoor.start
    rw [hc.clean]
    dsimp only
    rw [c1]
    dsimp only
    rw [c2]
    dsimp only
    rw [hc.schemeP]
    rfl
  · unfold hasScheme
    rw [hc.clean, c1]
    dsimp only
    rw [c2]
    dsimp only
    rw [hc.schemeP]
    rfl

/-! ### Paths and authorities -/
theorem slash_head (p : PS) (t : Bs) : slash p (47 :: t) 1 = true := by unfold slash slashes; split <;> simp
theorem path_again {u : Url} (hc : Can u) {p : PS} (hs : p.u.scheme = u.scheme) (h0 : special u.scheme = true → u.path ≠ []) (hp : p.u.path = []) : pathP p (pathT u.path) = { p with u := { p.u with path := u.path } } := by
  have hpo := hc.p
  cases hq : u.path with
  | nil =>
    have hn : special u.scheme = false := by
      cases h : special u.scheme with
      | false => rfl
      | true => exact absurd hq (h0 h)
    unfold pathP
    rw [show pathT [] = [] from rfl, slash_nil, hs, hn]
    simp only [Bool.false_eq_true, if_false, List.isEmpty_nil, Bool.not_true, Bool.or_false]
    rw [← hp]
  | cons x t =>
    rw [hq] at hpo
    unfold pathP
    rw [show pathT (x :: t) = 47 :: (x ++ pathT t) from rfl, slash_head, if_pos rfl]
    show walkP p [] (x ++ pathT t) = _
    unfold walkP
    rw [hs, walk_again hpo]
theorem cut_again {p : PS} {a b : Bs} (ha : ∀ c ∈ a, c ≠ 47 ∧ c ≠ 92) (hb : b = [] ∨ ∃ t, b = 47 :: t) : cutP p (a ++ b) = (a, b) := by
  have hx : ∀ c ∈ a, (!(slashes p).contains c) = true := by
    intro c hc
    obtain ⟨h1, h2⟩ := ha c hc
    unfold slashes
    split <;> simp [h1, h2]
  unfold cutP
  rw [List.takeWhile_append_of_pos hx, List.dropWhile_append_of_pos hx]
  rcases hb with rfl | ⟨t, rfl⟩
  · simp
  · have : (!(slashes p).contains 47) = false := by unfold slashes; split <;> simp
    rw [List.takeWhile_cons, List.dropWhile_cons, this]
    simp
theorem pathT_form (p : List Bs) : pathT p = [] ∨ ∃ t, pathT p = 47 :: t := by
  cases p with
  | nil => exact .inl rfl
  | cons x t => exact .inr ⟨x ++ pathT t, rfl⟩
theorem auth_again {u : Url} (hc : Can u) (hh : HostOk (special u.scheme) u.host) (ho : u.opq = false) {p : PS} (hs : p.u.scheme = u.scheme) (hpo : p.u.port = -1) (hb : p.bad = false) (hu : p.u.user = []) (hpa : p.u.pass = []) (hpp : p.u.path = []) :
    authP p (whomT u ++ pathT u.path) = { p with u := { p.u with user := u.user, pass := u.pass, hasHost := true, host := u.host, port := u.port, path := u.path } } := by
  have hw : ∀ c ∈ whomT u, c ≠ 47 ∧ c ≠ 92 := fun c h => ⟨(hc.whomMem c h).1, (hc.whomMem c h).2.1⟩
  have h64 : (64 : UInt8) ∉ hpT u := fun h => (hc.hpMem 64 h).2.2.1 rfl
  unfold authP
  rw [cut_again hw (pathT_form _)]
  dsimp only
  by_cases hcr : (u.user.isEmpty && u.pass.isEmpty) = true
  · have e : whomT u = hpT u := by unfold whomT; rw [if_pos hcr]
    simp only [Bool.and_eq_true] at hcr
    have e1 := List.isEmpty_iff.1 hcr.1
    have e2 := List.isEmpty_iff.1 hcr.2
    rw [e, lastAt_none h64]
    dsimp only
    rw [meet_again hc hh hs hpo hb]
    rw [path_again hc (p := { p with u := { p.u with hasHost := true, host := u.host, port := u.port } }) hs (fun h => hc.pne ho (.inr h)) hpp]
    rw [e1, e2]
    obtain ⟨⟨_, _, _, _, _, _, _, _, _, _, _, _, _⟩, _, _, _, _, _⟩ := p
    simp only at hu hpa
    subst hu
    subst hpa
    rfl
  · have e : whomT u = (u.user ++ (if u.pass.isEmpty then [] else 58 :: u.pass)) ++ 64 :: hpT u := by unfold whomT; rw [if_neg hcr]
    have h58 : (58 : UInt8) ∉ u.user := fun h => (set5_facts 58 (hc.cu 58 h)).2.2.1 rfl
    have ecut : cut1 58 (u.user ++ (if u.pass.isEmpty then [] else 58 :: u.pass)) = (u.user, u.pass, !u.pass.isEmpty) := by
      cases hp : u.pass with
      | nil => simpa using cut1_miss h58
      | cons a t => exact cut1_hit h58 _
    have hne : u.host ≠ [] := by
      apply hc.ch
      by_cases h : u.user = []
      · exact .inr (fun e => hcr (by rw [h, e]; rfl))
      · exact .inl h
    have hem : (hpT u).isEmpty = false := by
      unfold hpT
      cases hx : u.host with
      | nil => exact absurd hx hne
      | cons => rfl
    rw [e, lastAt_some h64]
    dsimp only
    rw [ecut, hem, hb]
    dsimp only
    rw [escape_ok hc.cu, escape_ok hc.cp]
    rw [meet_again hc hh (p := { p with u := { p.u with user := u.user, pass := u.pass }, bad := false || false }) hs hpo rfl]
    rw [path_again hc (p := { p with u := { p.u with user := u.user, pass := u.pass, hasHost := true, host := u.host, port := u.port }, bad := false || false }) hs (fun h => hc.pne ho (.inr h)) hpp]
    obtain ⟨⟨_, _, _, _, _, _, _, _, _, _, _, _, _⟩, _, _, _, _, _⟩ := p
    simp only at hb
    subst hb
    rfl
def endT (u : Url) : PS := ⟨{ u with query := [], frag := [] }, none, restT u, u.query, u.frag, false⟩
theorem Can.schemed {u : Url} (hc : Can u) : Proofs.YtfonfcbibdfplaaGreatDoor.schemed (startT u) = endT u := by
  have hbd : ∀ s, based (startT u) s = false := fun s => rfl
  have hsc : (startT u).u.scheme = u.scheme := rfl
  have hre : (startT u).rest = restT u := rfl
  unfold Proofs.YtfonfcbibdfplaaGreatDoor.schemed
  simp only [hbd, Bool.false_eq_true, if_false, Bool.false_and, hsc, hre]
  cases ho : u.opq with
  | true =>
    obtain ⟨h1, hh, h3, h4, h5, h6, _⟩ := hc.opq ho
    obtain ⟨g1, g2, g3, g4, _⟩ := hc.noh hh
    have hf : (u.scheme == sFile) = false := by
      rw [beq_eq_false_iff_ne]; intro e; rw [e, special_file] at h1; cases h1
    have e : restT u = u.text := by
      unfold restT dotT authU pathU; rw [hh, ho]; simp
    have e2 : two u.text = false := by
      unfold two
      rw [beq_eq_false_iff_ne]
      intro h
      cases ht : u.text with
      | nil => rw [ht] at h; simp at h
      | cons a t => rw [ht] at h h5; simp at h h5; exact h5 h.1
    have e3 : (u.text.head? == some 47) = false := by simpa using h5
    have e4 : (u.text.getLast? == some 32) = false := by simpa using h6
    rw [hf, h1, e, e2, e3]
    simp only [Bool.false_eq_true, if_false]
    unfold opaqueP startT endT
    dsimp only
    rw [e, e4, Bool.and_false]
    simp only [Bool.false_eq_true, if_false]
    rw [escape_ok h4]
    simp only [Url.zero]
    congr 1
    cases u
    simp_all
  | false =>
    cases hh : u.hasHost with
    | false =>
      obtain ⟨g1, g2, g3, g4, g5⟩ := hc.noh hh
      have hf : (u.scheme == sFile) = false := by
        rw [beq_eq_false_iff_ne]; intro e; rw [e, special_file] at g5; cases g5
      have hne := hc.pne ho (.inl hh)
      have hpk := hc.p
      have htx := hc.txt ho
      rw [hf, g5] at hpk
      rw [hf, g5]
      simp only [Bool.false_eq_true, if_false]
      cases hq : u.path with
      | nil => exact absurd hq hne
      | cons x t =>
        rw [hq] at hpk
        have key : two (restT u) = false ∧ (restT u).head? = some 47 ∧ walk false false [] ((restT u).drop 1) = x :: t ∧ ∃ r, restT u = 47 :: r := by
          by_cases hd : x = [] ∧ t ≠ []
          · obtain ⟨rfl, ht⟩ := hd
            have e : restT u = 47 :: 46 :: pathT ([] :: t) := by
              unfold restT dotT authU
              rw [pathU_eq ho, hh, ho, hq]
              have : decide (1 < (([] : Bs) :: t).length) = true := by
                cases t with
                | nil => exact absurd rfl ht
                | cons => simp
              rw [this]; rfl
            rw [e]
            refine ⟨rfl, rfl, ?_, _, rfl⟩
            show walk false false [] (46 :: pathT ([] :: t)) = _
            unfold walk
            simp only [Bool.false_eq_true, if_false]
            have hs : split 47 ([46] ++ pathT ([] :: t)) = [46] :: [] :: t := split_pathT _ _ (fun y hy => by
              rcases List.mem_cons.1 hy with rfl | hy
              · decide
              · exact (hpk.seg y hy).n47)
            rw [show (46 :: pathT ([] :: t) : Bs) = [46] ++ pathT ([] :: t) from rfl, hs]
            show walkF false (step false [] [46] false) ([] :: t) = _
            rw [show step false [] [46] false = [] from rfl]
            exact walkF_again ([] :: t) [] hpk (by simp)
          · have e : restT u = pathT (x :: t) := by
              unfold restT dotT authU
              rw [pathU_eq ho, hh, ho, hq]
              have : (decide (1 < (x :: t).length) && ((x :: t).headD []).isEmpty) = false := by
                by_cases hx : x = []
                · have ht : t = [] := by
                    cases t with
                    | nil => rfl
                    | cons a b => exact absurd ⟨hx, by simp⟩ hd
                  rw [ht]; rfl
                · have : ((x :: t).headD []).isEmpty = false := by
                    cases hx2 : x with
                    | nil => exact absurd hx2 hx
                    | cons => rfl
                  rw [this, Bool.and_false]
              rw [Bool.not_false, Bool.true_and, Bool.true_and, this]
              rfl
            rw [e]
            refine ⟨?_, rfl, walk_again hpk, _, rfl⟩
            unfold two
            rw [beq_eq_false_iff_ne]
            intro h2
            rw [show pathT (x :: t) = 47 :: (x ++ pathT t) from rfl] at h2
            cases hx : x with
            | nil =>
              have ht : t = [] := by
                cases t with
                | nil => rfl
                | cons a b => exact absurd ⟨hx, by simp⟩ hd
              rw [hx, ht] at h2
              simp [pathT] at h2
            | cons a b =>
              rw [hx] at h2
              simp at h2
              exact (hpk.seg x (by simp)).n47 (by rw [hx, h2]; simp)
        obtain ⟨k1, k2, k3, r, k4⟩ := key
        rw [k1, k2]
        simp only [Bool.false_eq_true, if_false, beq_self_eq_true, if_true]
        unfold pathP
        rw [k4, slash_head, if_pos rfl]
        rw [k4] at k3
        unfold walkP
        have e1 : (startT u).u.scheme = u.scheme := rfl
        rw [e1, hf, g5, k3]
        unfold startT endT
        simp only [Url.zero]
        congr 1
        cases u
        simp_all
    | true =>
      have htx := hc.txt ho
      have hrest : restT u = 47 :: 47 :: (whomT u ++ pathT u.path) := by
        unfold restT dotT
        rw [authU_eq hh, pathU_eq ho, hh]
        simp
      by_cases hf : u.scheme = sFile
      · obtain ⟨_, g1, g2, g3⟩ := hc.file hf
        have hf' : (u.scheme == sFile) = true := by simp [hf]
        have hsp : special u.scheme = true := by rw [hf]; rfl
        have hwt : whomT u = u.host := by unfold whomT hpT; rw [g1, g2, g3]; simp
        rw [hf', if_pos rfl]
        have hsl : slash { startT u with u := { (startT u).u with scheme := sFile, hasHost := true } } (restT u) 2 = true := by rw [hrest]; rfl
        have e0 : fileP (startT u) = far { startT u with u := { (startT u).u with scheme := sFile, hasHost := true } } (u.host ++ pathT u.path) := by
          show (if slash { startT u with u := { (startT u).u with scheme := sFile, hasHost := true } } (restT u) 2 = true then far { startT u with u := { (startT u).u with scheme := sFile, hasHost := true } } ((restT u).drop 2) else _) = _
          rw [if_pos hsl, hrest, hwt]
          rfl
        have hhm : ∀ c ∈ u.host, c ≠ 47 ∧ c ≠ 92 := fun c h => ⟨(hc.hostMem c h).2.2.1, (hc.hostMem c h).2.2.2.1⟩
        show fileP (startT u) = endT u
        rw [e0]
        unfold far
        rw [cut_again hhm (pathT_form _)]
        dsimp only
        have hdr : drive u.host = false := by
          rcases hc.host hh with ⟨_, h0⟩ | h1
          · rw [h0]; rfl
          · exact h1.drv
        rw [hdr]
        simp only [Bool.false_eq_true, if_false]
        have hfin : ∀ q : PS, q.u.scheme = u.scheme → q.u.path = [] → pathP q (pathT u.path) = { q with u := { q.u with path := u.path } } := fun q h1 h2 => path_again hc h1 (fun h => hc.pne ho (.inr h)) h2
        have h0 : u.host = [] ∨ HostOk true u.host ∧ u.host ≠ [] := by
          rcases hc.host hh with ⟨_, h0⟩ | h1
          · exact .inl h0
          · rw [hsp] at h1; exact .inr ⟨h1, h1.ne rfl⟩
        rcases h0 with h0 | ⟨h1, h2⟩
        · rw [h0]
          simp only [List.isEmpty_nil, if_true]
          rw [hfin { startT u with u := { (startT u).u with scheme := sFile, hasHost := true } } (show sFile = _ from hf.symm) rfl]
          unfold startT endT
          simp only [Url.zero]
          congr 1
          cases u
          simp_all
        · have hem : u.host.isEmpty = false := by
            cases hx : u.host with
            | nil => exact absurd hx h2
            | cons => rfl
          have hloc : (u.host == sLocal) = false := by rw [beq_eq_false_iff_ne]; exact hc.loc hf
          rw [hem, h1.same]
          simp only [Bool.false_eq_true, if_false]
          rw [hloc]
          simp only [Bool.false_eq_true, if_false]
          rw [hfin { startT u with u := { (startT u).u with scheme := sFile, hasHost := true, host := u.host } } (show sFile = _ from hf.symm) rfl]
          unfold startT endT
          simp only [Url.zero]
          congr 1
          cases u
          simp_all
      · have hf' : (u.scheme == sFile) = false := by simpa using hf
        have hho : HostOk (special u.scheme) u.host := by
          rcases hc.host hh with ⟨h0, _⟩ | h1
          · exact absurd h0 hf
          · exact h1
        have hau := auth_again hc hho ho (p := startT u) rfl rfl rfl rfl rfl rfl
        have hend : ({ startT u with u := { (startT u).u with user := u.user, pass := u.pass, hasHost := true, host := u.host, port := u.port, path := u.path } } : PS) = endT u := by
          unfold startT endT
          simp only [Url.zero]
          congr 1
          cases u
          simp_all
        rw [hend] at hau
        rw [hf']
        simp only [Bool.false_eq_true, if_false]
        split
        · rename_i hsp
          have hd : (restT u).dropWhile (fun c => (slashes (startT u)).contains c) = whomT u ++ pathT u.path := by
            have hsl : slashes (startT u) = [47, 92] := by unfold slashes; rw [hsc, hsp]; rfl
            rw [hrest, hsl]
            have hne : ∃ c t, whomT u ++ pathT u.path = c :: t ∧ c ≠ 47 ∧ c ≠ 92 := by
              have hw : whomT u ≠ [] := by
                unfold whomT
                split
                · unfold hpT
                  intro h
                  exact hho.ne hsp (List.append_eq_nil_iff.1 h).1
                · simp
              cases hx : whomT u with
              | nil => exact absurd hx hw
              | cons c t =>
                have := hc.whomMem c (by rw [hx]; simp)
                exact ⟨c, t ++ pathT u.path, rfl, this.1, this.2.1⟩
            obtain ⟨c, t, he, h1, h2⟩ := hne
            rw [he]
            rw [List.dropWhile_cons, if_pos (by decide), List.dropWhile_cons, if_pos (by decide), List.dropWhile_cons, if_neg (by simp [h1, h2])]
          rw [hd, hau]
        · have h2 : two (restT u) = true := by rw [hrest]; rfl
          rw [h2, if_pos rfl, hrest]
          exact hau
theorem parse_again {u : Url} (hc : Can u) (hl : (printU u).length ≤ 65536) : parse (printU u) none = (u, 0) := by
  obtain ⟨h1, h2⟩ := hc.start
  unfold parse
  rw [if_neg (by omega), run_some h2, h1, hc.schemed]
  have hb : (endT u).bad = false := rfl
  rw [hb]
  simp only [Bool.false_eq_true, if_false]
  congr 1
  unfold finish endT
  dsimp only
  rw [escape_ok hc.f]
  have hq := hc.q
  cases hx : u.query with
  | nil => cases u; simp_all
  | cons a t =>
    rw [hx] at hq
    simp only [List.isEmpty_cons, Bool.false_eq_true, if_false]
    rw [escape_ok hq, ← hx]
end Go.Proofs.YtfonfcbibdfplaaGreatDoor

/- What was read keeps to what the written text wants: plain laws. No condition. -/
namespace Go.Proofs.YtfonfcbibdfplaaGreatDoor

/-- A scheme as it is read. -/
structure SF (s : Bs) : Prop where
  s0 : ∃ c t, s = c :: t ∧ letter c = true
  s1 : ∀ c ∈ s, schemeC c = true
  s2 : lower s = s
/-- What a URL keeps to ahead of its query and its fragment. -/
structure Core (u : Url) : Prop where
  sf : SF u.scheme
  opq : u.opq = true → special u.scheme = false ∧ u.hasHost = false ∧ u.path = [] ∧ okC 0 u.text ∧ u.text.head? ≠ some 47 ∧ u.text.getLast? ≠ some 32 ∧ (63 : UInt8) ∉ u.text ∧ (35 : UInt8) ∉ u.text
  txt : u.opq = false → u.text = []
  noh : u.hasHost = false → u.user = [] ∧ u.pass = [] ∧ u.host = [] ∧ u.port = -1 ∧ special u.scheme = false
  pne : u.opq = false → (u.hasHost = false ∨ special u.scheme = true) → u.path ≠ []
  p : POk (u.scheme == sFile) (special u.scheme) u.path
  host : u.hasHost = true → (u.scheme = sFile ∧ u.host = []) ∨ HostOk (special u.scheme) u.host
  loc : u.scheme = sFile → u.host ≠ sLocal
  cu : okC 5 u.user
  cp : okC 5 u.pass
  ch : (u.user ≠ [] ∨ u.pass ≠ []) → u.host ≠ []
  port : u.port = -1 ∨ (0 ≤ u.port ∧ u.port ≤ 65535 ∧ u.port ≠ defPort u.scheme ∧ u.host ≠ [])
  file : u.scheme = sFile → u.hasHost = true ∧ u.user = [] ∧ u.pass = [] ∧ u.port = -1
theorem Can.core {u : Url} (h : Can u) : Core u := ⟨⟨h.s0, h.s1, h.s2⟩, h.opq, h.txt, h.noh, h.pne, h.p, h.host, h.loc, h.cu, h.cp, h.ch, h.port, h.file⟩
theorem Core.can {u : Url} (h : Core u) (qo : u.hasQ = false → u.query = []) (fo : u.hasF = false → u.frag = []) (q : okC (if special u.scheme then 3 else 2) u.query) (f : okC 1 u.frag) : Can u :=
  ⟨h.sf.s0, h.sf.s1, h.sf.s2, qo, fo, q, f, h.opq, h.txt, h.noh, h.pne, h.p, h.host, h.loc, h.cu, h.cp, h.ch, h.port, h.file⟩
/-- Nothing was read yet but the scheme. -/
structure Pre (u : Url) : Prop where
  user : u.user = []
  pass : u.pass = []
  host : u.host = []
  hh : u.hasHost = false
  port : u.port = -1
  opq : u.opq = false
  text : u.text = []
  path : u.path = []

/-! ### Parts -/
theorem walkP_u (p : PS) (l : List Bs) (s : Bs) : (walkP p l s).u = { p.u with path := walk (p.u.scheme == sFile) (special p.u.scheme) l s } := rfl
/-- A path, read: no other field turns. -/
theorem pathP_u (p : PS) (s : Bs) (hp : p.u.path = []) : ∃ q, (pathP p s).u = { p.u with path := q } ∧ POk (p.u.scheme == sFile) (special p.u.scheme) q ∧ (special p.u.scheme = true ∨ slash p s 1 = true → q ≠ []) ∧ (pathP p s).bad = p.bad := by
  unfold pathP
  split
  · exact ⟨_, rfl, walk_ok (POk.nil _ _) _, fun _ => walk_ne _ _ _ _, rfl⟩
  · rename_i h1
    split
    · exact ⟨_, rfl, walk_ok (POk.nil _ _) _, fun _ => walk_ne _ _ _ _, rfl⟩
    · rename_i h2
      refine ⟨[], by rw [← hp], POk.nil _ _, fun h => ?_, rfl⟩
      rcases h with h | h
      · simp [h] at h2
      · exact absurd h h1
theorem hostP_ne {s h : Bs} {sp : Bool} (hs : hostP s sp = some h) (hne : s ≠ []) : h ≠ [] := by
  cases sp with
  | true => exact (hostP_ok hs).ne rfl
  | false =>
    unfold hostP at hs
    split at hs
    · obtain ⟨a, rfl, _⟩ := literal_again hs; simp
    · simp only [Bool.false_eq_true, if_false] at hs
      split at hs
      · cases hs
      · cases hs
        cases s with
        | nil => exact absurd rfl hne
        | cons c t =>
          rw [escape_cons]
          split <;> simp [esc1]
theorem colonF_ltv : ∀ (l : Bs) (k n : Nat) (b : Bool), colonF k b l = some n → k ≤ n ∧ n < k + l.length
  | [], _, _, _, h => by simp [colonF] at h
  | c :: t, k, n, b, h => by
    simp only [colonF] at h
    split at h
    · have := colonF_ltv t _ _ _ h; simp only [List.length_cons]; omega
    · split at h
      · have := colonF_ltv t _ _ _ h; simp only [List.length_cons]; omega
      · split at h
        · cases h; simp only [List.length_cons]; omega
        · have := colonF_ltv t _ _ _ h; simp only [List.length_cons]; omega
theorem hostPut_bad {p : PS} {s : Bs} {b : Bool} (h : (hostPut p s b).bad = false) : b = false ∧ ∃ hh, hostP s (special p.u.scheme) = some hh ∧ (hostPut p s b).u = { p.u with hasHost := true, host := hh } := by
  unfold hostPut at h ⊢
  split at h
  · rename_i hh he
    exact ⟨h, hh, he, rfl⟩
  · cases h
/-- A host and a port, read. -/
theorem meet_u {p : PS} {s : Bs} (h : (meet p s).bad = false) (hp : p.u.port = -1) : p.bad = false ∧ ∃ hh n, (meet p s).u = { p.u with hasHost := true, host := hh, port := n } ∧ HostOk (special p.u.scheme) hh ∧ (s ≠ [] → hh ≠ []) ∧
    (n = -1 ∨ (0 ≤ n ∧ n ≤ 65535 ∧ n ≠ defPort p.u.scheme ∧ hh ≠ [])) := by
  unfold meet at h ⊢
  split at h
  · rename_i k hk
    obtain ⟨h1, hh, h2, h3⟩ := hostPut_bad h
    simp only [Bool.or_eq_false_iff] at h1
    obtain ⟨⟨b1, b2⟩, b3⟩ := h1
    have hk0 : k ≠ 0 := by simpa using b3
    have hlt := (colonF_ltv s 0 k false hk).2
    have hne : s.take k ≠ [] := by
      intro e
      have := congrArg List.length e
      rw [List.length_take, List.length_nil] at this
      omega
    have hhne := hostP_ne h2 hne
    refine ⟨b1, hh, (portP p (s.drop (k + 1))).1, ?_, hostP_ok h2, fun _ => hhne, ?_⟩
    · exact h3
    · have hb2 : (portP p (s.drop (k + 1))).2 = true := by simpa using b2
      unfold portP at hb2 ⊢
      split at hb2
      · rename_i hall
        rw [if_pos hall]
        dsimp only at hb2 ⊢
        split at hb2
        · rename_i hc; rw [if_pos hc]; exact .inl rfl
        · rename_i hc
          rw [if_neg hc]
          right
          simp at hb2 hc
          refine ⟨by simp, by simp; omega, ?_, hhne⟩
          exact hc.2
      · cases hb2
  · rename_i hk
    obtain ⟨h1, hh, h2, h3⟩ := hostPut_bad h
    refine ⟨h1, hh, -1, ?_, hostP_ok h2, fun hne => hostP_ne h2 hne, .inl rfl⟩
    rw [← hp]; exact h3
theorem bad_path (p : PS) (s : Bs) : (pathP p s).bad = p.bad := by unfold pathP; (repeat' split) <;> rfl
/-- Whom a URL means, and its path, read. -/
theorem core_auth {p : PS} {s : Bs} (hp : Pre p.u) (hs : SF p.u.scheme) (hf : p.u.scheme ≠ sFile) (h : (authP p s).bad = false) : Core (authP p s).u := by
  have hf' : (p.u.scheme == sFile) = false := by simpa using hf
  have key : ∀ (q : PS) (w r : Bs), q.u.scheme = p.u.scheme → q.u.port = -1 → q.u.path = [] → q.u.opq = false → q.u.text = [] → okC 5 q.u.user → okC 5 q.u.pass → ((q.u.user ≠ [] ∨ q.u.pass ≠ []) → w ≠ []) →
      (meet q w).bad = false → Core (pathP (meet q w) r).u := by
    intro q w r e1 e2 e3 e4 e5 e6 e7 e8 hb
    obtain ⟨_, hh, n, hu, ho, hne, hpo⟩ := meet_u hb e2
    have hmp : (meet q w).u.path = [] := by rw [hu]; exact e3
    obtain ⟨P, hP, hok, hPn, _⟩ := pathP_u (meet q w) r hmp
    rw [hP, hu]
    have esc : (meet q w).u.scheme = p.u.scheme := by rw [hu]; exact e1
    rw [esc] at hok hPn
    rw [e1] at ho hpo
    refine ⟨by rw [← e1] at hs; exact hs, fun h => ?_, fun _ => e5, fun h => (by cases h), fun _ h => ?_, ?_, fun _ => .inr ?_, fun h => ?_, e6, e7, fun h => hne (e8 h), ?_, fun h => ?_⟩
    · rw [e4] at h; cases h
    · rcases h with h | h
      · cases h
      · exact hPn (.inl (by rw [← e1]; exact h))
    · show POk (q.u.scheme == sFile) (special q.u.scheme) P
      rw [e1]; exact hok
    · show HostOk (special q.u.scheme) hh
      rw [e1]; exact ho
    · exact absurd (e1 ▸ h) hf
    · show n = -1 ∨ (0 ≤ n ∧ n ≤ 65535 ∧ n ≠ defPort q.u.scheme ∧ hh ≠ [])
      rw [e1]; exact hpo
    · exact absurd (e1 ▸ h) hf
  unfold authP at h ⊢
  split at h
  · rename_i cred w hl
    rw [bad_path] at h
    have hb := (meet_u h hp.port).1
    simp only [Bool.or_eq_false_iff] at hb
    refine key { p with u := { p.u with user := escape 5 (cut1 58 cred).1, pass := escape 5 (cut1 58 cred).2.1 }, bad := p.bad || w.isEmpty } w _ rfl hp.port hp.path hp.opq hp.text (escape_okC (by omega) _) (escape_okC (by omega) _) (fun _ e => ?_) h
    rw [e] at hb; exact absurd hb.2 (by decide)
  · rw [bad_path] at h
    refine key p _ _ rfl hp.port hp.path hp.opq hp.text (by rw [hp.user]; exact okC_nil 5) (by rw [hp.pass]; exact okC_nil 5) (fun hc => ?_) h
    rcases hc with hc | hc
    · exact absurd hp.user hc
    · exact absurd hp.pass hc
theorem core_path {p : PS} {s : Bs} (hp : Pre p.u) (hs : SF p.u.scheme) (hn : special p.u.scheme = false) (hsl : slash p s 1 = true) : Core (pathP p s).u := by
  have hf : p.u.scheme ≠ sFile := fun e => by rw [e, special_file] at hn; cases hn
  obtain ⟨P, hP, hok, hPn, _⟩ := pathP_u p s hp.path
  rw [hP]
  refine ⟨hs, fun h => ?_, fun _ => hp.text, fun _ => ⟨hp.user, hp.pass, hp.host, hp.port, hn⟩, fun _ _ => hPn (.inr hsl), hok, fun h => ?_, fun h => absurd h hf, ?_, ?_, fun h => ?_, .inl hp.port, fun h => absurd h hf⟩
  · exact absurd h (by rw [show ({ p.u with path := P } : Url).opq = p.u.opq from rfl, hp.opq]; decide)
  · exact absurd h (by rw [show ({ p.u with path := P } : Url).hasHost = p.u.hasHost from rfl, hp.hh]; decide)
  · show okC 5 p.u.user; rw [hp.user]; exact okC_nil 5
  · show okC 5 p.u.pass; rw [hp.pass]; exact okC_nil 5
  · rcases h with h | h
    · exact absurd hp.user h
    · exact absurd hp.pass h
/-- The last byte of what is escaped. -/
theorem escape_last {l : Bs} (h : l.getLast? ≠ some 32) : (escape 0 l).getLast? ≠ some 32 := by
  rcases List.eq_nil_or_concat l with rfl | ⟨t, c, rfl⟩
  · simp [escape_nil]
  · rw [List.concat_eq_append] at h ⊢
    rw [escape_app, escape_cons, escape_nil, List.append_nil]
    have hc : c ≠ 32 := by simpa using h
    have e : ∀ c : UInt8, c ≠ 32 → ∃ x y, (if inSet 0 c then esc1 c else [c]) = x ++ [y] ∧ y ≠ 32 := by
      intro c hc
      split
      · refine ⟨[37, hexDig (c / 16)], hexDig (c % 16), rfl, ?_⟩
        have e : ∀ c : UInt8, hexDig (c % 16) ≠ 32 := of_all (by decide +kernel)
        exact e c
      · exact ⟨[], c, rfl, hc⟩
    obtain ⟨x, y, hxy, hy⟩ := e c hc
    rw [hxy, ← List.append_assoc]
    simpa using hy
theorem escape_head {l : Bs} (h : l.head? ≠ some 47) : (escape 0 l).head? ≠ some 47 := by
  cases l with
  | nil => simp [escape_nil]
  | cons c t =>
    rw [escape_cons]
    split
    · simp [esc1]
    · simpa using h
theorem core_opaque {p : PS} (hp : Pre p.u) (hs : SF p.u.scheme) (hn : special p.u.scheme = false) (h47 : p.rest.head? ≠ some 47) (h63 : (63 : UInt8) ∉ p.rest) (h35 : (35 : UInt8) ∉ p.rest)
    (h32 : p.u.hasQ = false → p.u.hasF = false → p.rest.getLast? ≠ some 32) : Core (opaqueP p).u := by
  have hf : p.u.scheme ≠ sFile := fun e => by rw [e, special_file] at hn; cases hn
  have key : ∀ t : Bs, okC 0 t → t.head? ≠ some 47 → t.getLast? ≠ some 32 → (63 : UInt8) ∉ t → (35 : UInt8) ∉ t → Core { p.u with opq := true, text := t } := by
    intro t k1 k2 k3 k4 k5
    refine ⟨hs, fun _ => ⟨hn, hp.hh, hp.path, k1, k2, k3, k4, k5⟩, fun h => (by cases h), fun _ => ⟨hp.user, hp.pass, hp.host, hp.port, hn⟩, fun h => (by cases h), ?_, fun h => ?_, fun h => absurd h hf, ?_, ?_, fun h => ?_, .inl hp.port, fun h => absurd h hf⟩
    · show POk _ _ p.u.path; rw [hp.path]; exact POk.nil _ _
    · exact absurd h (by rw [show ({ p.u with opq := true, text := t } : Url).hasHost = p.u.hasHost from rfl, hp.hh]; decide)
    · show okC 5 p.u.user; rw [hp.user]; exact okC_nil 5
    · show okC 5 p.u.pass; rw [hp.pass]; exact okC_nil 5
    · rcases h with h | h
      · exact absurd hp.user h
      · exact absurd hp.pass h
  have nmem : ∀ (l : Bs) (c : UInt8), c ∉ l → c ≠ 37 → ¬ (48 ≤ c ∧ c ≤ 57) → ¬ (65 ≤ c ∧ c ≤ 70) → c ∉ escape 0 l := by
    intro l c h1 h2 h3 h4 hm
    rcases escape_mem hm with ⟨h, _⟩ | h | h | h
    · exact h1 h
    · exact h2 h
    · exact h3 h
    · exact h4 h
  unfold opaqueP
  split
  · rename_i hc
    simp only [Bool.and_eq_true] at hc
    have hdl : ∀ c, c ∈ p.rest.dropLast → c ∈ p.rest := fun c h => (List.dropLast_sublist _).subset h
    have hhd : p.rest.dropLast.head? ≠ some 47 := by
      cases hr : p.rest with
      | nil => simp
      | cons a t =>
        rw [hr] at h47
        cases t with
        | nil => simp
        | cons b r => simpa using h47
    refine key _ ?_ ?_ ?_ ?_ ?_
    · intro c hcm
      rcases List.mem_append.1 hcm with h | h
      · exact escape_okC (by omega) _ c h
      · simp at h; rcases h with rfl | rfl | rfl <;> decide
    · cases hd : escape 0 p.rest.dropLast with
      | nil => simp
      | cons a t =>
        have := escape_head hhd
        rw [hd] at this
        simpa using this
    · simp
    · intro hm
      rcases List.mem_append.1 hm with h | h
      · exact nmem _ 63 (fun h => h63 (hdl 63 h)) (by decide) (by decide) (by decide) h
      · simp at h
    · intro hm
      rcases List.mem_append.1 hm with h | h
      · exact nmem _ 35 (fun h => h35 (hdl 35 h)) (by decide) (by decide) (by decide) h
      · simp at h
  · rename_i hc
    refine key _ (escape_okC (by omega) _) (escape_head h47) (escape_last ?_) (nmem _ 63 h63 (by decide) (by decide) (by decide)) (nmem _ 35 h35 (by decide) (by decide) (by decide))
    intro e
    apply hc
    have e' : (p.rest.getLast? == some 32) = true := by rw [e]; decide
    rw [e', Bool.and_true]
    cases hq : p.u.hasQ with
    | true => rfl
    | false =>
      cases hfr : p.u.hasF with
      | true => rfl
      | false => exact absurd e (h32 hq hfr)
end Go.Proofs.YtfonfcbibdfplaaGreatDoor

