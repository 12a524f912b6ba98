import Derived.Test.YtfonfcbibdfplaaGreatDoorG42
/- What was read, beside whatever base, keeps to what the written text wants; so it is read as itself: plain laws. No condition. -/
namespace Go.Proofs.YtfonfcbibdfplaaGreatDoor

theorem core_far {p : PS} {s : Bs} (hs : p.u.scheme = sFile) (hpre : p.u.user = [] ∧ p.u.pass = [] ∧ p.u.host = [] ∧ p.u.hasHost = true ∧ p.u.port = -1 ∧ p.u.opq = false ∧ p.u.text = [] ∧ p.u.path = []) (h : (far p s).bad = false) : Core (far p s).u := by
  obtain ⟨z1, z2, z3, z4, z5, z6, z7, z8⟩ := hpre
  have hsf : SF sFile := ⟨⟨102, [105, 108, 101], rfl, by decide⟩, by decide, by decide⟩
  have key : ∀ (q : PS) (r : Bs), q.u.scheme = sFile → q.u.user = [] → q.u.pass = [] → q.u.hasHost = true → q.u.port = -1 → q.u.opq = false → q.u.text = [] → q.u.path = [] → (q.u.host = [] ∨ HostOk true q.u.host) → q.u.host ≠ sLocal → Core (pathP q r).u := by
    intro q r e1 e2 e3 e4 e5 e6 e7 e8 e9 e10
    obtain ⟨P, hP, hok, hPn, _⟩ := pathP_u q r e8
    rw [hP]
    have hsp : special q.u.scheme = true := by rw [e1]; rfl
    refine ⟨by show SF q.u.scheme; rw [e1]; exact hsf, fun h => ?_, fun _ => e7, fun h => ?_, fun _ _ => hPn (.inl hsp), hok, fun _ => ?_, fun _ => e10, ?_, ?_, fun h => ?_, .inl e5, fun _ => ⟨e4, e2, e3, e5⟩⟩
    · exact absurd h (by rw [show ({ q.u with path := P } : Url).opq = q.u.opq from rfl, e6]; decide)
    · exact absurd h (by rw [show ({ q.u with path := P } : Url).hasHost = q.u.hasHost from rfl, e4]; decide)
    · rcases e9 with e9 | e9
      · exact .inl ⟨e1, e9⟩
      · right; show HostOk (special q.u.scheme) q.u.host; rw [hsp]; exact e9
    · show okC 5 q.u.user; rw [e2]; exact okC_nil 5
    · show okC 5 q.u.pass; rw [e3]; exact okC_nil 5
    · rcases h with h | h
      · exact absurd e2 h
      · exact absurd e3 h
  have hl : ([] : Bs) ≠ sLocal := by decide
  unfold far at h ⊢
  split
  · exact key p _ hs z1 z2 z4 z5 z6 z7 z8 (.inl z3) (by rw [z3]; exact hl)
  · split
    · exact key p _ hs z1 z2 z4 z5 z6 z7 z8 (.inl z3) (by rw [z3]; exact hl)
    · split
      · rename_i hh he
        split
        · exact key p _ hs z1 z2 z4 z5 z6 z7 z8 (.inl z3) (by rw [z3]; exact hl)
        · rename_i hne
          exact key { p with u := { p.u with host := hh } } _ hs z1 z2 z4 z5 z6 z7 z8 (.inr (hostP_ok he)) (by simpa using hne)
      · rename_i h1 h2 _ he
        rw [if_neg h1, if_neg h2] at h
        simp only [he] at h
        rw [bad_path] at h
        cases h
theorem POk.take1 {file sp : Bool} {p : List Bs} (h : POk file sp p) : POk file sp (p.take 1) :=
  ⟨fun x hx => h.seg x (List.mem_of_mem_take hx), fun hf x t e hd => by
    cases p with
    | nil => simp at e
    | cons y r =>
      simp at e
      exact h.one hf x r (by rw [e.1]) hd⟩
/-- A file, read: of what stood there (nothing, or a base's). -/
theorem core_file {p : PS} (hp : Pre p.u) (hb : ∀ b, p.base = some b → Core b ∧ b.scheme = sFile ∧ b.opq = false) (h : (fileP p).bad = false) : Core (fileP p).u := by
  have hsf : SF sFile := ⟨⟨102, [105, 108, 101], rfl, by decide⟩, by decide, by decide⟩
  have hl : ([] : Bs) ≠ sLocal := by decide
  have key : ∀ u : Url, u.scheme = sFile → u.user = [] → u.pass = [] → u.hasHost = true → u.port = -1 → u.opq = false → u.text = [] → POk true true u.path → u.path ≠ [] → (u.host = [] ∨ HostOk true u.host) → u.host ≠ sLocal → Core u := by
    intro u e1 e2 e3 e4 e5 e6 e7 e8 e8' e9 e10
    have hsp : special u.scheme = true := by rw [e1]; rfl
    have hff : (u.scheme == sFile) = true := by rw [e1]; decide
    refine ⟨by rw [e1]; exact hsf, fun h => ?_, fun _ => e7, fun h => ?_, fun _ _ => e8', by rw [hsp, hff]; exact e8, fun _ => ?_, fun _ => e10, by rw [e2]; exact okC_nil 5, by rw [e3]; exact okC_nil 5, fun h => ?_, .inl e5, fun _ => ⟨e4, e2, e3, e5⟩⟩
    · rw [e6] at h; cases h
    · rw [e4] at h; cases h
    · rcases e9 with e9 | e9
      · exact .inl ⟨e1, e9⟩
      · right; rw [hsp]; exact e9
    · rcases h with h | h
      · exact absurd e2 h
      · exact absurd e3 h
  have bh : ∀ b, p.base = some b → (b.host = [] ∨ HostOk true b.host) ∧ b.host ≠ sLocal ∧ POk true true b.path ∧ b.path ≠ [] := by
    intro b e
    obtain ⟨hc, hs, ho⟩ := hb b e
    have hh := (hc.file hs).1
    have hsp : special b.scheme = true := by rw [hs]; rfl
    have hff : (b.scheme == sFile) = true := by rw [hs]; decide
    have hpk := hc.p
    rw [hsp, hff] at hpk
    refine ⟨?_, hc.loc hs, hpk, hc.pne ho (.inr hsp)⟩
    rcases hc.host hh with ⟨_, h0⟩ | h1
    · exact .inl h0
    · rw [hsp] at h1; exact .inr h1
  have wk : ∀ l s, POk true true l → POk true true (walk true true l s) := fun l s h => walk_ok h s
  unfold fileP at h ⊢
  dsimp only at h ⊢
  split at h
  · rename_i h1
    rw [if_pos h1]
    exact core_far rfl ⟨hp.user, hp.pass, hp.host, rfl, hp.port, hp.opq, hp.text, hp.path⟩ h
  · rename_i h1
    rw [if_neg h1]
    split at h
    · rename_i h2
      rw [if_pos h2]
      unfold near
      dsimp only
      split
      · rename_i b e
        obtain ⟨g1, g2, g3, g4⟩ := bh b e
        refine key _ rfl hp.user hp.pass rfl hp.port hp.opq hp.text (wk _ _ ?_) (walk_ne _ _ _ _) g1 g2
        split
        · exact g3.take1
        · exact POk.nil _ _
      · exact key _ rfl hp.user hp.pass rfl hp.port hp.opq hp.text (wk _ _ (POk.nil _ _)) (walk_ne _ _ _ _) (.inl hp.host) (by show p.u.host ≠ _; rw [hp.host]; exact hl)
    · rename_i h2
      rw [if_neg h2]
      split
      · exact key _ rfl hp.user hp.pass rfl hp.port hp.opq hp.text (wk _ _ (POk.nil _ _)) (walk_ne _ _ _ _) (.inl hp.host) (by show p.u.host ≠ _; rw [hp.host]; exact hl)
      · rename_i b e
        obtain ⟨g1, g2, g3, g4⟩ := bh b e
        split
        · unfold keep
          dsimp only
          split
          · rename_i b' e'
            rw [e] at e'
            cases e'
            exact key _ rfl hp.user hp.pass rfl hp.port hp.opq hp.text g3 g4 g1 g2
          · rename_i e'
            rw [e] at e'; cases e'
        · split
          · exact key _ rfl hp.user hp.pass rfl hp.port hp.opq hp.text (wk _ _ (POk.nil _ _)) (walk_ne _ _ _ _) g1 g2
          · exact key _ rfl hp.user hp.pass rfl hp.port hp.opq hp.text (wk _ _ (g3.shorten true)) (walk_ne _ _ _ _) g1 g2
/-- What is meant beside a base that is no file, read. -/
theorem core_relative {p : PS} {b : Url} (hp : Pre p.u) (hb : p.base = some b) (hc : Core b) (ho : b.opq = false) (hf : b.scheme ≠ sFile) (h : (relative p).bad = false) : Core (relative p).u := by
  have hf' : (b.scheme == sFile) = false := by simpa using hf
  have hpb : ∀ P : List Bs, POk false (special b.scheme) P → P ≠ [] ∨ P = b.path → ∀ u : Url, u = { p.u with scheme := b.scheme, hasHost := b.hasHost, host := b.host, port := b.port, user := b.user, pass := b.pass, path := P, hasQ := u.hasQ, query := u.query } → Core u := by
    intro P k1 k2 u hu
    rw [hu]
    refine ⟨hc.sf, fun h => ?_, fun _ => hp.text, hc.noh, fun _ h => ?_, by show POk (b.scheme == sFile) _ _; rw [hf']; exact k1, hc.host, hc.loc, hc.cu, hc.cp, hc.ch, hc.port, hc.file⟩
    · have : p.u.opq = true := h
      rw [hp.opq] at this; cases this
    · rcases k2 with k2 | k2
      · exact k2
      · show P ≠ []
        rw [k2]; exact hc.pne ho h
  have hob : baseOf p = b := by unfold baseOf; rw [hb]; rfl
  unfold relative at h ⊢
  rw [hob] at h ⊢
  dsimp only at h ⊢
  have hp' : Pre ({ p.u with scheme := b.scheme } : Url) := ⟨hp.user, hp.pass, hp.host, hp.hh, hp.port, hp.opq, hp.text, hp.path⟩
  have hw : whom { p with u := { p.u with scheme := b.scheme } } = { p with u := { p.u with scheme := b.scheme, hasHost := b.hasHost, host := b.host, port := b.port, user := b.user, pass := b.pass } } := by
    unfold whom; dsimp only; rw [hb]
  split at h
  · rename_i h1
    rw [if_pos h1]
    split at h
    · rename_i h2
      rw [if_pos h2]
      exact core_auth hp' hc.sf hf h
    · rename_i h2
      rw [if_neg h2]
      exact core_auth hp' hc.sf hf h
  · rename_i h1
    rw [if_neg h1]
    split at h
    · rename_i h2
      rw [if_pos h2, hw]
      obtain ⟨P, hP, hok, hPn, _⟩ := pathP_u { p with u := { p.u with scheme := b.scheme, hasHost := b.hasHost, host := b.host, port := b.port, user := b.user, pass := b.pass } } p.rest hp.path
      refine hpb P ?_ (.inl (hPn (.inr h2))) _ (by rw [hP])
      rw [← hf']; exact hok
    · rename_i h2
      rw [if_neg h2]
      have hpk := hc.p
      rw [hf'] at hpk
      split
      · rw [hw]
        unfold keep
        dsimp only
        rw [hb]
        exact hpb b.path hpk (.inr rfl) _ rfl
      · rw [hw]
        refine hpb (walk (b.scheme == sFile) (special b.scheme) (shorten false b.path) p.rest) ?_ (.inl (walk_ne _ _ _ _)) _ ?_
        · rw [hf']; exact walk_ok (hpk.shorten false) _
        · unfold baseOf; dsimp only; rw [hb]; rfl

/-! ### What begins -/
theorem schemeP_SF {s n r : Bs} (h : schemeP s = some (n, r)) : SF n := by
  simp only [schemeP, Option.ite_none_right_eq_some, Option.some.injEq, Prod.mk.injEq] at h
  obtain ⟨h1, rfl, _⟩ := h
  simp only [Bool.and_eq_true] at h1
  obtain ⟨⟨h58, hl⟩, ha⟩ := h1
  refine ⟨?_, ?_, lower_idem _⟩
  · cases s with
    | nil => simp at hl
    | cons c t =>
      have hl' : letter c = true := hl
      have hc : (c != 58) = true := by
        have e : ∀ c : UInt8, letter c = true → (c != 58) = true := of_all (by decide +kernel)
        exact e c hl'
      refine ⟨low1 c, lower (t.takeWhile (· != 58)), ?_, ?_⟩
      · rw [List.takeWhile_cons, hc, if_pos rfl]; rfl
      · have e : ∀ c : UInt8, letter c = true → letter (low1 c) = true := of_all (by decide +kernel)
        exact e c hl'
  · intro c hc
    unfold lower at hc
    rw [List.mem_map] at hc
    obtain ⟨d, hd, rfl⟩ := hc
    have e : ∀ d : UInt8, schemeC d = true → schemeC (low1 d) = true := of_all (by decide +kernel)
    exact e d (List.all_eq_true.1 ha d hd)
theorem clean_last (l : Bs) : (clean l).getLast? ≠ some 32 := by
  rw [clean_eq]
  have hX : ∀ c, (trimB (fix l)).getLast? = some c → blank c = false := by
    intro c hc
    unfold trimB at hc
    rw [List.getLast?_reverse] at hc
    generalize (List.dropWhile blank (fix l)).reverse = m at hc
    induction m with
    | nil => simp at hc
    | cons a t ih =>
      rw [List.dropWhile_cons] at hc
      split at hc
      · exact ih hc
      · rename_i ha
        simp at hc
        rw [← hc]; simpa using ha
  generalize trimB (fix l) = X at hX
  rcases List.eq_nil_or_concat X with rfl | ⟨t, c, rfl⟩
  · simp [dropWs]
  · rw [List.concat_eq_append] at hX ⊢
    have hb := hX c (by simp)
    have e : ∀ c : UInt8, blank c = false → (!(c == 9 || c == 10 || c == 13)) = true ∧ c ≠ 32 := of_all (by decide +kernel)
    obtain ⟨e1, e2⟩ := e c hb
    unfold dropWs
    rw [List.filter_append, List.filter_cons_of_pos (p := fun c => !(c == 9 || c == 10 || c == 13)) e1]
    simp
    exact e2
theorem cut1_no (c : UInt8) (l : Bs) : c ∉ (cut1 c l).1 := by
  show c ∉ l.takeWhile (· != c)
  induction l with
  | nil => simp
  | cons d t ih =>
    rw [List.takeWhile_cons]
    split
    · rename_i hd
      intro h
      rcases List.mem_cons.1 h with h | h
      · rw [h] at hd; simp at hd
      · exact ih h
    · simp
theorem cut1_sub (c d : UInt8) (l : Bs) (h : d ∈ (cut1 c l).1) : d ∈ l := (List.takeWhile_sublist _).subset h
theorem cut1_all {c : UInt8} {l : Bs} (h : (cut1 c l).2.2 = false) : cut1 c l = (l, [], false) := by
  have h' : l.contains c = false := h
  exact cut1_miss (by simpa using h')
theorem rest_facts (s : Bs) (base : Option Url) : (63 : UInt8) ∉ (start s base).rest ∧ (35 : UInt8) ∉ (start s base).rest ∧ ((start s base).u.hasQ = false → (start s base).u.hasF = false → (start s base).rest.getLast? ≠ some 32) ∧
    ((start s base).u.hasQ = false → (start s base).query = []) ∧ ((start s base).u.hasF = false → (start s base).frag = []) ∧ (start s base).bad = false ∧ Pre (start s base).u ∧ (start s base).u.query = [] ∧ (hasScheme s = true → SF (start s base).u.scheme) := by
  have n63 := cut1_no 63 (cut1 35 (clean s)).1
  have n35 : (35 : UInt8) ∉ (cut1 63 (cut1 35 (clean s)).1).1 := fun h => cut1_no 35 _ (cut1_sub _ _ _ h)
  have hl : (cut1 63 (cut1 35 (clean s)).1).2.2 = false → (cut1 35 (clean s)).2.2 = false → (cut1 63 (cut1 35 (clean s)).1).1 = clean s := by
    intro h1 h2
    rw [cut1_all h1, cut1_all h2]
  have hq : (cut1 63 (cut1 35 (clean s)).1).2.2 = false → (cut1 63 (cut1 35 (clean s)).1).2.1 = [] := fun h => by rw [cut1_all h]
  have hf : (cut1 35 (clean s)).2.2 = false → (cut1 35 (clean s)).2.1 = [] := fun h => by rw [cut1_all h]
  have hcl := clean_last s
  unfold start hasScheme
  dsimp only
  generalize cut1 35 (clean s) = a at *
  generalize cut1 63 a.1 = b at *
  split
  · rename_i n r he
    refine ⟨fun h => n63 (schemeP_mem he h), fun h => n35 (schemeP_mem he h), fun h1 h2 hlast => ?_, hq, hf, rfl, ⟨rfl, rfl, rfl, rfl, rfl, rfl, rfl, rfl⟩, rfl, fun _ => schemeP_SF he⟩
    have hb := hl h1 h2
    have hr : ∃ x, b.1 = x ++ r := by
      simp only [schemeP, Option.ite_none_right_eq_some, Option.some.injEq, Prod.mk.injEq] at he
      obtain ⟨_, _, rfl⟩ := he
      refine ⟨b.1.takeWhile (· != 58) ++ (b.1.dropWhile (· != 58)).take 1, ?_⟩
      rw [List.append_assoc, List.take_append_drop, List.takeWhile_append_dropWhile]
    obtain ⟨x, hx⟩ := hr
    rw [← hb, hx, List.getLast?_append] at hcl
    have hlast' : r.getLast? = some 32 := hlast
    rw [hlast'] at hcl
    exact hcl rfl
  · rename_i he
    refine ⟨n63, n35, fun h1 h2 hlast => ?_, hq, hf, rfl, ⟨rfl, rfl, rfl, rfl, rfl, rfl, rfl, rfl⟩, rfl, fun h => ?_⟩
    · have hb := hl h1 h2
      rw [← hb] at hcl
      exact hcl hlast
    · rw [he] at h; cases h
end Go.Proofs.YtfonfcbibdfplaaGreatDoor

/- A URL that was read, written and read again, is it: plain law. No condition. -/
namespace Go.Proofs.YtfonfcbibdfplaaGreatDoor

/-- What happens to the query and the fragment. -/
structure QF (p : PS) (u : Url) : Prop where
  hf : u.hasF = p.u.hasF
  fr : u.frag = escape 1 p.frag
  q0 : (u.hasQ = p.u.hasQ ∧ u.query = if p.query.isEmpty then [] else escape (if special u.scheme then 3 else 2) p.query)
theorem not_bad {s : Bs} {base : Option Url} (h : (parse s base).2 = 0) : (run s base).bad = false ∧ parse s base = ((finish (run s base)).u, 0) := by
  unfold parse at h ⊢
  by_cases hl : 65536 < s.length
  · rw [if_pos hl] at h; simp at h
  · rw [if_neg hl] at h ⊢
    cases hb : (run s base).bad with
    | true => rw [hb] at h; simp at h
    | false => rw [if_neg (by simp)]; exact ⟨rfl, rfl⟩
theorem finish_can {r : PS} (hc : Core r.u) (h1 : r.u.hasQ = false → r.query = []) (h2 : r.u.hasF = false → r.frag = []) (h3 : r.query = [] → (r.u.hasQ = false → r.u.query = []) ∧ okC (if special r.u.scheme then 3 else 2) r.u.query) : Can (finish r).u := by
  have hc' : Core (finish r).u := by
    obtain ⟨a0, a1, a2, a3, a4, a5, a6, a7, a8, a9, a10, a11, a12⟩ := hc
    exact ⟨a0, a1, a2, a3, a4, a5, a6, a7, a8, a9, a10, a11, a12⟩
  refine hc'.can ?_ ?_ ?_ ?_
  · intro hq
    have hq' : r.u.hasQ = false := hq
    show (if r.query.isEmpty then r.u.query else _) = []
    rw [h1 hq']
    exact (h3 (h1 hq')).1 hq'
  · intro hf
    show escape 1 r.frag = []
    rw [h2 hf]; rfl
  · show okC (if special r.u.scheme then 3 else 2) (if r.query.isEmpty then r.u.query else escape (if special r.u.scheme then 3 else 2) r.query)
    cases hq : r.query with
    | nil => exact (h3 hq).2
    | cons a t =>
      simp only [List.isEmpty_cons, Bool.false_eq_true, if_false]
      exact escape_okC (by split <;> omega) _
  · exact escape_okC (by omega) _
/-- The fields that no part of the way turns. -/
theorem kept_rel (p : PS) : (relative p).query = p.query ∧ (relative p).frag = p.frag ∧ (relative p).u.hasF = p.u.hasF := by
  have hp : ∀ (q : PS) (s : Bs), (pathP q s).query = q.query ∧ (pathP q s).frag = q.frag ∧ (pathP q s).u.hasF = q.u.hasF := fun q s => ⟨(sch_path q s).2.2.2.2.2.1, (sch_path q s).2.2.2.2.2.2.1, (sch_path q s).2.2.2.2.1⟩
  have ha : ∀ (q : PS) (s : Bs), (authP q s).query = q.query ∧ (authP q s).frag = q.frag ∧ (authP q s).u.hasF = q.u.hasF := fun q s => ⟨(sch_auth q s).2.2.2.2.2.1, (sch_auth q s).2.2.2.2.2.2.1, (sch_auth q s).2.2.2.2.1⟩
  have hw : ∀ q : PS, (whom q).query = q.query ∧ (whom q).frag = q.frag ∧ (whom q).u.hasF = q.u.hasF := fun q => by unfold whom; split <;> exact ⟨rfl, rfl, rfl⟩
  have hk : ∀ q : PS, (keep q).query = q.query ∧ (keep q).frag = q.frag ∧ (keep q).u.hasF = q.u.hasF := fun q => by unfold keep; split <;> exact ⟨rfl, rfl, rfl⟩
  unfold relative
  dsimp only
  (repeat' split)
  · exact ha _ _
  · exact ha _ _
  · obtain ⟨a, b, c⟩ := hp (whom { p with u := { p.u with scheme := (baseOf p).scheme } }) p.rest
    obtain ⟨d, e, f⟩ := hw { p with u := { p.u with scheme := (baseOf p).scheme } }
    exact ⟨a.trans d, b.trans e, c.trans f⟩
  · obtain ⟨a, b, c⟩ := hk (whom { p with u := { p.u with scheme := (baseOf p).scheme } })
    obtain ⟨d, e, f⟩ := hw { p with u := { p.u with scheme := (baseOf p).scheme } }
    exact ⟨a.trans d, b.trans e, c.trans f⟩
  · exact hw { p with u := { p.u with scheme := (baseOf p).scheme } }
theorem kept_fil (p : PS) : (fileP p).query = p.query ∧ (fileP p).frag = p.frag ∧ (fileP p).u.hasF = p.u.hasF := by
  have hfar : ∀ (q : PS) (s : Bs), (far q s).query = q.query ∧ (far q s).frag = q.frag ∧ (far q s).u.hasF = q.u.hasF := fun q s => ⟨(sch_far q s).2.2.2.2.2.1, (sch_far q s).2.2.2.2.2.2.1, (sch_far q s).2.2.2.2.1⟩
  have hk : ∀ q : PS, (keep q).query = q.query ∧ (keep q).frag = q.frag ∧ (keep q).u.hasF = q.u.hasF := fun q => by unfold keep; split <;> exact ⟨rfl, rfl, rfl⟩
  unfold fileP near
  dsimp only
  (repeat' split)
  all_goals first
    | exact hfar _ _
    | exact hk _
    | exact ⟨rfl, rfl, rfl⟩
/-- Whether, and which, query there is, behind what is meant beside a base. -/
theorem query_rel {p : PS} {b : Url} (hb : p.base = some b) (h0 : p.u.query = []) : ((relative p).u.hasQ = p.u.hasQ ∧ (relative p).u.query = []) ∨ ((relative p).u.scheme = b.scheme ∧ ((p.u.hasQ = true ∧ (relative p).u.hasQ = true ∧ (relative p).u.query = []) ∨ (p.u.hasQ = false ∧ (relative p).u.hasQ = b.hasQ ∧ (relative p).u.query = b.query))) := by
  have hp : ∀ (q : PS) (s : Bs), (pathP q s).u.hasQ = q.u.hasQ ∧ (pathP q s).u.query = q.u.query := fun q s => ⟨(sch_path q s).2.2.2.1, (sch_path q s).2.1⟩
  have ha : ∀ (q : PS) (s : Bs), (authP q s).u.hasQ = q.u.hasQ ∧ (authP q s).u.query = q.u.query := fun q s => ⟨(sch_auth q s).2.2.2.1, (sch_auth q s).2.1⟩
  have hob : baseOf p = b := by unfold baseOf; rw [hb]; rfl
  have hw : whom { p with u := { p.u with scheme := b.scheme } } = { p with u := { p.u with scheme := b.scheme, hasHost := b.hasHost, host := b.host, port := b.port, user := b.user, pass := b.pass } } := by
    unfold whom; dsimp only; rw [hb]
  unfold relative
  rw [hob]
  dsimp only
  split
  · split
    · left; rw [(ha _ _).1, (ha _ _).2]; exact ⟨rfl, h0⟩
    · left; rw [(ha _ _).1, (ha _ _).2]; exact ⟨rfl, h0⟩
  · split
    · left; rw [(hp _ _).1, (hp _ _).2, hw]; exact ⟨rfl, h0⟩
    · split
      · right
        rw [hw]
        unfold keep
        dsimp only
        rw [hb]
        refine ⟨rfl, ?_⟩
        cases hq : p.u.hasQ with
        | true => left; exact ⟨rfl, rfl, by simpa using h0⟩
        | false => right; exact ⟨rfl, rfl, rfl⟩
      · left; rw [hw]; exact ⟨rfl, h0⟩
theorem query_fil {p : PS} (h0 : p.u.query = []) : ((fileP p).u.hasQ = p.u.hasQ ∧ (fileP p).u.query = []) ∨ (∃ b, p.base = some b ∧ (fileP p).u.scheme = sFile ∧ ((p.u.hasQ = true ∧ (fileP p).u.hasQ = true ∧ (fileP p).u.query = []) ∨ (p.u.hasQ = false ∧ (fileP p).u.hasQ = b.hasQ ∧ (fileP p).u.query = b.query))) := by
  have hfar : ∀ (q : PS) (s : Bs), (far q s).u.hasQ = q.u.hasQ ∧ (far q s).u.query = q.u.query := fun q s => ⟨(sch_far q s).2.2.2.1, (sch_far q s).2.1⟩
  unfold fileP near
  dsimp only
  split
  · left; rw [(hfar _ _).1, (hfar _ _).2]; exact ⟨rfl, h0⟩
  · split
    · split <;> (left; exact ⟨rfl, h0⟩)
    · split
      · left; exact ⟨rfl, h0⟩
      · rename_i b e
        split
        · right
          refine ⟨b, e, ?_⟩
          unfold keep
          dsimp only
          rw [e]
          refine ⟨rfl, ?_⟩
          cases hq : p.u.hasQ with
          | true => left; exact ⟨rfl, rfl, by simpa using h0⟩
          | false => right; exact ⟨rfl, rfl, rfl⟩
        · split <;> (left; exact ⟨rfl, h0⟩)
/-- WHAT WAS READ KEEPS TO WHAT THE WRITTEN TEXT WANTS. -/
theorem parse_can {s : Bs} {base : Option Url} (hb : ∀ b, base = some b → Can b) (h : (parse s base).2 = 0) : Can (parse s base).1 := by
  obtain ⟨hbad, he⟩ := not_bad h
  rw [he]
  obtain ⟨r63, r35, r32, rq, rf, rb, hpre, hq0, hsf⟩ := rest_facts s base
  obtain ⟨_, _, _, _, _, hbase⟩ := start_facts s base
  have qof : ∀ b, base = some b → (b.hasQ = false → b.query = []) ∧ okC (if special b.scheme then 3 else 2) b.query := fun b e => ⟨(hb b e).qo, (hb b e).q⟩
  unfold run at hbad ⊢
  generalize start s base = p at *
  -- beside a base that is no file
  have relC : ∀ b, p.base = some b → b.opq = false → b.scheme ≠ sFile → (relative p).bad = false → Can (finish (relative p)).u := by
    intro b e ho hf hbd
    obtain ⟨k1, k2, k3⟩ := kept_rel p
    have hbb := hb b (hbase ▸ e)
    refine finish_can (core_relative hpre e hbb.core ho hf hbd) ?_ ?_ ?_
    · intro hq
      rw [k1]
      rcases query_rel e hq0 with ⟨q1, _⟩ | ⟨_, ⟨_, q1, _⟩ | ⟨q1, _⟩⟩
      · exact rq (q1 ▸ hq)
      · rw [q1] at hq; cases hq
      · exact rq q1
    · rw [k2, k3]; exact rf
    · intro _
      rcases query_rel e hq0 with ⟨_, q2⟩ | ⟨q0, ⟨_, _, q2⟩ | ⟨_, q1, q2⟩⟩
      · rw [q2]; exact ⟨fun _ => rfl, okC_nil _⟩
      · rw [q2]; exact ⟨fun _ => rfl, okC_nil _⟩
      · rw [q1, q2, q0]; exact qof b (hbase ▸ e)
  have filC : ∀ q : PS, Pre q.u → q.u.query = [] → (q.u.hasQ = false → q.query = []) → (q.u.hasF = false → q.frag = []) → (∀ b, q.base = some b → base = some b ∧ b.scheme = sFile ∧ b.opq = false) → (fileP q).bad = false → Can (finish (fileP q)).u := by
    intro q hp' hq0' hrq hrf hbq hbd
    obtain ⟨k1, k2, k3⟩ := kept_fil q
    refine finish_can (core_file hp' (fun b e => ⟨(hb b (hbq b e).1).core, (hbq b e).2⟩) hbd) ?_ ?_ ?_
    · intro hq
      rw [k1]
      rcases query_fil hq0' with ⟨q1, _⟩ | ⟨b, _, _, ⟨_, q1, _⟩ | ⟨q1, _⟩⟩
      · exact hrq (q1 ▸ hq)
      · rw [q1] at hq; cases hq
      · exact hrq q1
    · rw [k2, k3]; exact hrf
    · intro _
      rcases query_fil hq0' with ⟨_, q2⟩ | ⟨b, e, q0, ⟨_, _, q2⟩ | ⟨_, q1, q2⟩⟩
      · rw [q2]; exact ⟨fun _ => rfl, okC_nil _⟩
      · rw [q2]; exact ⟨fun _ => rfl, okC_nil _⟩
      · obtain ⟨e1, e2, _⟩ := hbq b e
        have := qof b e1
        rw [q1, q2, q0, ← e2]; exact this
  -- what reads no base
  have plainC : ∀ q : PS, Core q.u → Sch p q → Can (finish q).u := by
    intro q hc ⟨c1, c2, c3, c4, c5, c6, c7, c8⟩
    refine finish_can hc (fun h => ?_) (fun h => ?_) (fun _ => ?_)
    · rw [c6]; exact rq (c4 ▸ h)
    · rw [c7]; exact rf (c5 ▸ h)
    · rw [c2, hq0]; exact ⟨fun _ => rfl, okC_nil _⟩
  split at hbad
  · rename_i hs
    rw [if_pos hs]
    have hsf := hsf hs
    unfold schemed at hbad ⊢
    split at hbad
    · rename_i h1
      rw [if_pos h1]
      split at hbad
      · rename_i h2
        rw [if_pos h2]
        have hbs : ∀ b, p.base = some b → b.scheme = sFile := by
          intro b e
          unfold based at h2
          rw [e] at h2
          simpa using h2
        refine filC p hpre hq0 rq rf (fun b e => ⟨hbase ▸ e, hbs b e, ?_⟩) hbad
        have hcb := hb b (hbase ▸ e)
        cases ho : b.opq with
        | false => rfl
        | true =>
          have := (hcb.opq ho).1
          rw [hbs b e, special_file] at this; cases this
      · rename_i h2
        rw [if_neg h2]
        exact filC { p with base := none } hpre hq0 rq rf (fun b e => by cases e) hbad
    · rename_i h1
      rw [if_neg h1]
      have hnf : p.u.scheme ≠ sFile := by simpa using h1
      split at hbad
      · rename_i hsp
        rw [if_pos hsp]
        split at hbad
        · rename_i h2
          rw [if_pos h2]
          simp only [Bool.and_eq_true] at h2
          obtain ⟨h2, _⟩ := h2
          unfold based at h2
          split at h2
          · rename_i b e
            have hbs : b.scheme = p.u.scheme := by simpa using h2
            refine relC b e ?_ (by rw [hbs]; exact hnf) hbad
            have hcb := hb b (hbase ▸ e)
            cases ho : b.opq with
            | false => rfl
            | true =>
              have := (hcb.opq ho).1
              rw [hbs, hsp] at this; cases this
          · cases h2
        · rename_i h2
          rw [if_neg h2]
          exact plainC _ (core_auth hpre hsf hnf hbad) (sch_auth _ _)
      · rename_i hsp
        rw [if_neg hsp]
        have hns : special p.u.scheme = false := by simpa using hsp
        split at hbad
        · rename_i h2
          rw [if_pos h2]
          exact plainC _ (core_auth hpre hsf hnf hbad) (sch_auth _ _)
        · rename_i h2
          rw [if_neg h2]
          split at hbad
          · rename_i h3
            rw [if_pos h3]
            refine plainC _ (core_path hpre hsf hns ?_) (sch_path _ _)
            have : p.rest.head? = some 47 := by simpa using h3
            cases hr : p.rest with
            | nil => rw [hr] at this; cases this
            | cons c t => rw [hr] at this; simp at this; rw [this]; exact slash_head _ _
          · rename_i h3
            rw [if_neg h3]
            exact plainC _ (core_opaque hpre hsf hns (by simpa using h3) r63 r35 r32) (sch_opaque _)
  · rename_i hs
    rw [if_neg hs]
    unfold plain at hbad ⊢
    cases hbs : p.base with
    | none => rw [hbs] at hbad; cases hbad
    | some b =>
      rw [hbs] at hbad
      dsimp only at hbad ⊢
      have hcb := hb b (hbase ▸ hbs)
      split at hbad
      · rename_i ho
        rw [if_pos ho]
        have hbad' : (!p.rest.isEmpty || p.u.hasQ || !p.u.hasF) = false := hbad
        simp only [Bool.or_eq_false_iff, Bool.not_eq_false'] at hbad'
        obtain ⟨⟨_, g2⟩, g3⟩ := hbad'
        obtain ⟨o1, o2, o3, o4, o5, o6, o7, o8⟩ := hcb.opq ho
        have hnf : b.scheme ≠ sFile := fun e => by rw [e, special_file] at o1; cases o1
        refine finish_can ⟨hcb.core.sf, fun _ => ⟨o1, hpre.hh, hpre.path, o4, o5, o6, o7, o8⟩, fun h => (by cases h), fun _ => ⟨hpre.user, hpre.pass, hpre.host, hpre.port, o1⟩, fun h => (by cases h), ?_, fun h => ?_, fun h => absurd h hnf, ?_, ?_, fun h => ?_, .inl hpre.port, fun h => absurd h hnf⟩ (fun _ => rq g2) rf (fun _ => ⟨hcb.qo, hcb.q⟩)
        · show POk _ _ p.u.path; rw [hpre.path]; exact POk.nil _ _
        · have : p.u.hasHost = true := h
          rw [hpre.hh] at this; cases this
        · show okC 5 p.u.user; rw [hpre.user]; exact okC_nil 5
        · show okC 5 p.u.pass; rw [hpre.pass]; exact okC_nil 5
        · rcases h with h | h
          · exact absurd hpre.user h
          · exact absurd hpre.pass h
      · rename_i ho
        rw [if_neg ho]
        have ho' : b.opq = false := by simpa using ho
        split at hbad
        · rename_i hf
          rw [if_pos hf]
          refine filC p hpre hq0 rq rf (fun b' e => ?_) hbad
          rw [hbs] at e; cases e
          exact ⟨hbase ▸ hbs, by simpa using hf, ho'⟩
        · rename_i hf
          rw [if_neg hf]
          exact relC b hbs ho' (by simpa using hf) hbad
/-- What is written of a URL is read as it. -/
theorem parse_back {s : Bs} {base : Option Url} (hb : ∀ b, base = some b → Can b) (h : (parse s base).2 = 0) (hl : (printU (parse s base).1).length ≤ 65536) : parse (printU (parse s base).1) none = ((parse s base).1, 0) :=
  parse_again (parse_can hb h) hl
end Go.Proofs.YtfonfcbibdfplaaGreatDoor

/- How long what was read is, written: plain laws. No condition. -/
namespace Go.Proofs.YtfonfcbibdfplaaGreatDoor

theorem escape_lenv (set : Nat) : ∀ l : Bs, (escape set l).length ≤ 3 * l.length
  | [] => by simp [escape_nil]
  | c :: t => by
    have := escape_lenv set t
    rw [escape_cons, List.length_append, List.length_cons]
    split <;> simp only [esc1, List.length_cons, List.length_nil] <;> omega
theorem pathT_app (a b : List Bs) : (pathT (a ++ b)).length = (pathT a).length + (pathT b).length := by unfold pathT; rw [List.flatMap_append, List.length_append]
theorem pathT_one (x : Bs) : (pathT [x]).length = x.length + 1 := by simp [pathT]
theorem pathT_last (p : List Bs) : (pathT p.dropLast).length ≤ (pathT p).length := by
  rcases List.eq_nil_or_concat p with rfl | ⟨t, x, rfl⟩
  · simp
  · rw [List.concat_eq_append, List.dropLast_concat, pathT_app]; omega
theorem shorten_lenv (f : Bool) (p : List Bs) : (pathT (shorten f p)).length ≤ (pathT p).length := by
  unfold shorten; split
  · exact Nat.le_refl _
  · exact pathT_last p
theorem step_lenv (file : Bool) (p : List Bs) (s : Bs) (last : Bool) : (pathT (step file p s last)).length ≤ (pathT p).length + 3 * s.length + 1 := by
  have h1 := shorten_lenv file p
  have h2 : ∀ q : List Bs, (pathT (q ++ [[]])).length = (pathT q).length + 1 := fun q => by rw [pathT_app, pathT_one]; rfl
  unfold step
  (repeat' split)
  · rw [h2]; omega
  · omega
  · rw [h2]; omega
  · omega
  · rename_i hd
    simp at hd
    obtain ⟨a, b, rfl, _⟩ := drive_two hd.2
    rw [pathT_app, pathT_one]
    have := escape_lenv 4 ([a, b].take 1 ++ [58])
    simp at this ⊢
    omega
  · rw [pathT_app, pathT_one]
    have := escape_lenv 4 s
    omega
theorem walkF_len (file : Bool) : ∀ (l : List Bs) (p : List Bs), (pathT (walkF file p l)).length ≤ (pathT p).length + 3 * (pathT l).length
  | [], p => by simp [walkF]
  | [s], p => by
    have := step_lenv file p s true
    show (pathT (step file p s true)).length ≤ _
    rw [pathT_one]; omega
  | s :: t :: l, p => by
    have h1 := step_lenv file p s false
    have h2 := walkF_len file (t :: l) (step file p s false)
    have e : (pathT (s :: t :: l)).length = s.length + 1 + (pathT (t :: l)).length := by
      rw [show (s :: t :: l : List Bs) = [s] ++ (t :: l) from rfl, pathT_app, pathT_one]
    show (pathT (walkF file (step file p s false) (t :: l))).length ≤ _
    omega
theorem split_sum (c : UInt8) : ∀ l : Bs, (pathT (split c l)).length = l.length + 1
  | [] => by simp [split, pathT]
  | d :: t => by
    have ih := split_sum c t
    unfold split
    split
    · rw [show ([] :: split c t : List Bs) = [[]] ++ split c t from rfl, pathT_app, pathT_one, ih]
      simp; omega
    · split
      · rename_i he; exact absurd he (split_ne c t)
      · rename_i x l he
        rw [he] at ih
        have e : ∀ (y : Bs) (m : List Bs), (pathT (y :: m)).length = y.length + 1 + (pathT m).length := fun y m => by
          rw [show (y :: m : List Bs) = [y] ++ m from rfl, pathT_app, pathT_one]
        rw [e] at ih ⊢
        simp only [List.length_cons]
        omega
theorem walk_len (file sp : Bool) (p : List Bs) (s : Bs) : (pathT (walk file sp p s)).length ≤ (pathT p).length + 3 * s.length + 3 := by
  unfold walk
  have h1 := walkF_len file (split 47 (if sp then unback s else s)) p
  rw [split_sum] at h1
  have : (if sp then unback s else s).length = s.length := by
    split
    · unfold unback; rw [List.length_map]
    · rfl
  omega
theorem decF_len : ∀ (k n j : Nat), n < 10 ^ j → 0 < j → (decF k n).length ≤ j
  | 0, _, _, _, _ => Nat.zero_le _
  | k + 1, n, j, h, hj => by
    unfold decF
    split
    · simp only [List.length_cons, List.length_nil]; omega
    · rename_i h1
      obtain ⟨j, rfl⟩ : ∃ m, j = m + 1 := ⟨j - 1, by omega⟩
      have hj0 : 0 < j := by
        rcases Nat.eq_zero_or_pos j with rfl | h2
        · simp at h; omega
        · exact h2
      have := decF_len k (n / 10) j (by rw [Nat.pow_succ] at h; omega) hj0
      simp only [List.length_append, List.length_cons, List.length_nil]; omega
theorem dec_len3 {n : Nat} (h : n < 256) : (dec n).length ≤ 3 := decF_len _ n 3 (by omega) (by omega)
theorem dec_len5 {n : Nat} (h : n ≤ 65535) : (dec n).length ≤ 5 := decF_len _ n 5 (by omega) (by omega)
theorem printQ_lenv (n : Nat) : (printQ n).length ≤ 15 := by
  have h1 := dec_len3 (n := n / 16777216 % 256) (by omega)
  have h2 := dec_len3 (n := n / 65536 % 256) (by omega)
  have h3 := dec_len3 (n := n / 256 % 256) (by omega)
  have h4 := dec_len3 (n := n % 256) (by omega)
  rw [printQ_eq]
  simp only [List.length_append, List.length_cons]
  omega
theorem joinS_lenv : ∀ l : List Nat, (∀ n ∈ l, n < 65536) → (joinS l).length ≤ 5 * l.length
  | [], _ => by simp [joinS, join]
  | [a], h => by
    have : (hexs a).length ≤ 4 := hexF_len _ a 4 (by have := h a (by simp); omega) (by omega)
    rw [joinS_one]; simp only [List.length_cons, List.length_nil]; omega
  | a :: b :: l, h => by
    have h1 : (hexs a).length ≤ 4 := hexF_len _ a 4 (by have := h a (by simp); omega) (by omega)
    have h2 := joinS_lenv (b :: l) (fun n hn => h n (by simp at hn; simp [hn]))
    rw [joinS_cons, List.length_append, List.length_cons]
    simp only [List.length_cons] at h2 ⊢
    omega
theorem unescape_le : ∀ (n : Nat) (l : Bs), l.length ≤ n → (unescape l).length ≤ l.length
  | _, [], _ => by simp [unescape]
  | _, [a], _ => by simp [unescape]
  | _, [a, b], _ => by simp [unescape]
  | 0, _ :: _ :: _ :: _, h => by simp at h
  | n + 1, a :: b :: c :: t, h => by
    simp only [List.length_cons] at h
    unfold unescape
    split
    · have := unescape_le n t (by omega)
      simp only [List.length_cons]; omega
    · have := unescape_le n (b :: c :: t) (by simp only [List.length_cons]; omega)
      simp only [List.length_cons] at this ⊢; omega
theorem hostP_len {s h : Bs} {sp : Bool} (hs : hostP s sp = some h) : h.length ≤ 3 * s.length + 50 := by
  unfold hostP at hs
  split at hs
  · unfold literal at hs
    split at hs
    · rw [Option.map_eq_some_iff] at hs
      obtain ⟨a, ha, rfl⟩ := hs
      obtain ⟨h8, hlt⟩ := parseS_ltv ha
      have : (printS a).length ≤ 42 := by
        unfold printS
        split
        · have := joinS_lenv a hlt; omega
        · have h1 := joinS_lenv (a.take (longest a).1) (fun n hn => hlt n (List.mem_of_mem_take hn))
          have h2 := joinS_lenv (a.drop (longest a).2) (fun n hn => hlt n (List.mem_of_mem_drop hn))
          have h3 := (longest_in a).1
          rw [List.length_take] at h1
          rw [List.length_drop] at h2
          have := h3.1
          have := h3.2.1
          simp only [List.length_append, List.length_cons, List.length_nil]
          omega
      simp only [List.length_append, List.length_cons, List.length_nil]
      omega
    · cases hs
  · split at hs
    · unfold domainH at hs
      dsimp only at hs
      have hu := unescape_le s.length s (Nat.le_refl _)
      have hl : (lower (unescape s)).length = (unescape s).length := by unfold lower; rw [List.length_map]
      split at hs
      · cases hs
      · split at hs
        · rw [Option.map_eq_some_iff] at hs
          obtain ⟨n, _, rfl⟩ := hs
          have := printQ_lenv n
          omega
        · cases hs; omega
    · split at hs
      · cases hs
      · cases hs
        have := escape_lenv 0 s
        omega

/-! ### The whole -/
/-- How long a URL's parts are. -/
def mU (u : Url) : Nat := u.scheme.length + u.user.length + u.pass.length + u.host.length + (pathT u.path).length + u.text.length
theorem m_path (p : PS) (s : Bs) : mU (pathP p s).u ≤ mU p.u + 3 * s.length + 3 := by
  have h1 := walk_len (p.u.scheme == sFile) (special p.u.scheme) [] (s.drop 1)
  have h2 := walk_len (p.u.scheme == sFile) (special p.u.scheme) [] s
  rw [show pathT [] = [] from rfl, List.length_nil] at h1 h2
  rw [List.length_drop] at h1
  unfold pathP
  split
  · rw [walkP_u]; unfold mU; dsimp only; omega
  · split
    · rw [walkP_u]; unfold mU; dsimp only; omega
    · omega
theorem m_put (p : PS) (s : Bs) (b : Bool) (h0 : p.u.host = []) : mU (hostPut p s b).u ≤ mU p.u + 3 * s.length + 50 := by
  unfold hostPut
  split
  · rename_i h he
    have := hostP_len he
    unfold mU; dsimp only; rw [h0]; simp only [List.length_nil]; omega
  · unfold mU; dsimp only; rw [h0]; simp only [List.length_nil]; omega
theorem m_meet (p : PS) (s : Bs) (h0 : p.u.host = []) : mU (meet p s).u ≤ mU p.u + 3 * s.length + 50 := by
  unfold meet
  split
  · rename_i k hk
    have h1 : (s.take k).length ≤ s.length := by rw [List.length_take]; omega
    have := m_put { p with u := { p.u with port := (portP p (s.drop (k + 1))).1 } } (s.take k) (p.bad || !(portP p (s.drop (k + 1))).2 || k == 0) h0
    have e : mU { p.u with port := (portP p (s.drop (k + 1))).1 } = mU p.u := rfl
    rw [show ({ p with u := { p.u with port := (portP p (s.drop (k + 1))).1 } } : PS).u = { p.u with port := (portP p (s.drop (k + 1))).1 } from rfl, e] at this
    omega
  · exact m_put p s p.bad h0
theorem cut_sum (p : PS) (s : Bs) : (cutP p s).1.length + (cutP p s).2.length = s.length := by
  unfold cutP; rw [← List.length_append, List.takeWhile_append_dropWhile]
theorem lastAt_sum {s a b : Bs} (h : lastAt s = some (a, b)) : a.length + b.length + 1 ≤ s.length := by
  unfold lastAt at h
  split at h
  · rename_i hc
    cases h
    rw [List.length_reverse, List.length_reverse, List.length_drop]
    have e := congrArg List.length (List.takeWhile_append_dropWhile (p := (· != (64 : UInt8))) (l := s.reverse))
    rw [List.length_append, List.length_reverse] at e
    have hne : 0 < (s.reverse.dropWhile (· != 64)).length := by
      rw [List.length_pos_iff]
      intro h0
      have := List.takeWhile_append_dropWhile (p := (· != (64 : UInt8))) (l := s.reverse)
      rw [h0, List.append_nil] at this
      have hm : (64 : UInt8) ∈ s.reverse.takeWhile (· != 64) := by rw [this]; simpa using hc
      have hx : ∀ l : Bs, (64 : UInt8) ∉ l.takeWhile (· != 64) := fun l => cut1_no 64 l
      exact hx _ hm
    omega
  · cases h
theorem cut1_sum (c : UInt8) (s : Bs) : (cut1 c s).1.length + (cut1 c s).2.1.length ≤ s.length := by
  show (s.takeWhile (· != c)).length + ((s.dropWhile (· != c)).drop 1).length ≤ s.length
  have e := congrArg List.length (List.takeWhile_append_dropWhile (p := (· != c)) (l := s))
  rw [List.length_append] at e
  rw [List.length_drop]
  omega
theorem m_auth (p : PS) (s : Bs) (h0 : p.u.host = []) (h1 : p.u.user = []) (h2 : p.u.pass = []) : mU (authP p s).u ≤ mU p.u + 3 * s.length + 60 := by
  have hc := cut_sum p s
  unfold authP
  split
  · rename_i cred h hl
    have hs := lastAt_sum hl
    have hs2 := cut1_sum 58 cred
    have e1 := escape_lenv 5 (cut1 58 cred).1
    have e2 := escape_lenv 5 (cut1 58 cred).2.1
    have g1 := m_path (meet { p with u := { p.u with user := escape 5 (cut1 58 cred).1, pass := escape 5 (cut1 58 cred).2.1 }, bad := p.bad || h.isEmpty } h) (cutP p s).2
    have g2 := m_meet { p with u := { p.u with user := escape 5 (cut1 58 cred).1, pass := escape 5 (cut1 58 cred).2.1 }, bad := p.bad || h.isEmpty } h h0
    have g3 : mU { p.u with user := escape 5 (cut1 58 cred).1, pass := escape 5 (cut1 58 cred).2.1 } ≤ mU p.u + 3 * cred.length := by
      unfold mU; dsimp only; rw [h1, h2]; simp only [List.length_nil]; omega
    have g2' : mU (meet { p with u := { p.u with user := escape 5 (cut1 58 cred).1, pass := escape 5 (cut1 58 cred).2.1 }, bad := p.bad || h.isEmpty } h).u ≤ mU { p.u with user := escape 5 (cut1 58 cred).1, pass := escape 5 (cut1 58 cred).2.1 } + 3 * h.length + 50 := g2
    omega
  · have g1 := m_path (meet p (cutP p s).1) (cutP p s).2
    have g2 := m_meet p (cutP p s).1 h0
    omega
theorem m_far (p : PS) (s : Bs) : mU (far p s).u ≤ mU p.u + 3 * s.length + 60 := by
  have hc := cut_sum p s
  unfold far
  split
  · have := m_path p s; omega
  · split
    · have := m_path p (cutP p s).2; omega
    · split
      · rename_i hh he
        have hl := hostP_len he
        split
        · have := m_path p (cutP p s).2; omega
        · have := m_path { p with u := { p.u with host := hh } } (cutP p s).2
          have e : mU { p.u with host := hh } ≤ mU p.u + hh.length := by unfold mU; dsimp only; omega
          have g : mU (pathP { p with u := { p.u with host := hh } } (cutP p s).2).u ≤ mU { p.u with host := hh } + 3 * (cutP p s).2.length + 3 := this
          omega
      · have := m_path { p with bad := true, u := { p.u with host := [] } } (cutP p s).2
        have e : mU { p.u with host := [] } ≤ mU p.u := by unfold mU; dsimp only; simp only [List.length_nil]; omega
        have g : mU (pathP { p with bad := true, u := { p.u with host := [] } } (cutP p s).2).u ≤ mU { p.u with host := [] } + 3 * (cutP p s).2.length + 3 := this
        omega
/-- How long a base's parts are (0: there is none). -/
def mB (b : Option Url) : Nat := match b with | some b => mU b | none => 0
theorem m_walkP (p : PS) (l : List Bs) (s : Bs) : mU (walkP p l s).u ≤ mU p.u + (pathT l).length + 3 * s.length + 3 := by
  have := walk_len (p.u.scheme == sFile) (special p.u.scheme) l s
  rw [walkP_u]; unfold mU; dsimp only; omega
theorem m_file {p : PS} (hp : Pre p.u) : mU (fileP p).u ≤ mB p.base + 3 * p.rest.length + 80 := by
  have hm : mU ({ p.u with scheme := sFile, hasHost := true } : Url) = 4 := by
    unfold mU; dsimp only; rw [hp.user, hp.pass, hp.host, hp.text, hp.path]; rfl
  have hbm : ∀ b, p.base = some b → b.host.length + (pathT b.path).length ≤ mB p.base := fun b e => by rw [e]; show _ ≤ mU b; unfold mU; omega
  unfold fileP near
  dsimp only
  split
  · have := m_far { p with u := { p.u with scheme := sFile, hasHost := true } } (p.rest.drop 2)
    have g : mU (far { p with u := { p.u with scheme := sFile, hasHost := true } } (p.rest.drop 2)).u ≤ mU { p.u with scheme := sFile, hasHost := true } + 3 * (p.rest.drop 2).length + 60 := this
    rw [List.length_drop] at g
    refine Nat.le_trans g ?_
    omega
  · split
    · split
      · rename_i b e
        have hb := hbm b e
        have hw := m_walkP { p with u := { p.u with scheme := sFile, hasHost := true, host := b.host } } (if (!begins (p.rest.drop 1) && !b.path.isEmpty && normal (b.path.headD [])) = true then b.path.take 1 else []) (p.rest.drop 1)
        have hm2 : mU ({ p.u with scheme := sFile, hasHost := true, host := b.host } : Url) ≤ 4 + b.host.length := by
          unfold mU at hm ⊢; dsimp only at hm ⊢; omega
        have hm3 : (pathT (if (!begins (p.rest.drop 1) && !b.path.isEmpty && normal (b.path.headD [])) = true then b.path.take 1 else [])).length ≤ (pathT b.path).length := by
          split
          · have e := pathT_app (b.path.take 1) (b.path.drop 1)
            rw [List.take_append_drop] at e
            omega
          · simp [pathT]
        have g : mU (walkP { p with u := { p.u with scheme := sFile, hasHost := true, host := b.host } } (if (!begins (p.rest.drop 1) && !b.path.isEmpty && normal (b.path.headD [])) = true then b.path.take 1 else []) (p.rest.drop 1)).u ≤ mU { p.u with scheme := sFile, hasHost := true, host := b.host } + (pathT (if (!begins (p.rest.drop 1) && !b.path.isEmpty && normal (b.path.headD [])) = true then b.path.take 1 else [])).length + 3 * (p.rest.drop 1).length + 3 := hw
        rw [List.length_drop] at g
        refine Nat.le_trans g ?_
        omega
      · have hw := m_walkP { p with u := { p.u with scheme := sFile, hasHost := true } } [] (p.rest.drop 1)
        have g : mU (walkP { p with u := { p.u with scheme := sFile, hasHost := true } } [] (p.rest.drop 1)).u ≤ mU { p.u with scheme := sFile, hasHost := true } + (pathT []).length + 3 * (p.rest.drop 1).length + 3 := hw
        rw [List.length_drop, show (pathT []).length = 0 from rfl] at g
        refine Nat.le_trans g ?_
        omega
    · split
      · have hw := m_walkP { p with u := { p.u with scheme := sFile, hasHost := true } } [] p.rest
        have g : mU (walkP { p with u := { p.u with scheme := sFile, hasHost := true } } [] p.rest).u ≤ mU { p.u with scheme := sFile, hasHost := true } + (pathT []).length + 3 * p.rest.length + 3 := hw
        rw [show (pathT []).length = 0 from rfl] at g
        refine Nat.le_trans g ?_
        omega
      · rename_i b e
        have hb := hbm b e
        have hm2 : mU ({ p.u with scheme := sFile, hasHost := true, host := b.host } : Url) ≤ 4 + b.host.length := by
          unfold mU at hm ⊢; dsimp only at hm ⊢; omega
        split
        · unfold keep
          dsimp only
          rw [e]
          dsimp only
          unfold mU at hm2 ⊢
          dsimp only at hm2 ⊢
          rw [e] at hb
          omega
        · split
          · have g : mU (walkP { p with u := { p.u with scheme := sFile, hasHost := true, host := b.host } } [] p.rest).u ≤ mU { p.u with scheme := sFile, hasHost := true, host := b.host } + (pathT []).length + 3 * p.rest.length + 3 := m_walkP _ _ _
            rw [show (pathT []).length = 0 from rfl] at g
            refine Nat.le_trans g ?_
            omega
          · have g : mU (walkP { p with u := { p.u with scheme := sFile, hasHost := true, host := b.host } } (shorten true b.path) p.rest).u ≤ mU { p.u with scheme := sFile, hasHost := true, host := b.host } + (pathT (shorten true b.path)).length + 3 * p.rest.length + 3 := m_walkP _ _ _
            have := shorten_lenv true b.path
            refine Nat.le_trans g ?_
            omega
theorem m_rel {p : PS} {b : Url} (hp : Pre p.u) (hb : p.base = some b) : mU (relative p).u ≤ mU b + 3 * p.rest.length + 80 := by
  have hob : baseOf p = b := by unfold baseOf; rw [hb]; rfl
  have hw : whom { p with u := { p.u with scheme := b.scheme } } = { p with u := { p.u with scheme := b.scheme, hasHost := b.hasHost, host := b.host, port := b.port, user := b.user, pass := b.pass } } := by
    unfold whom; dsimp only; rw [hb]
  have hm : mU ({ p.u with scheme := b.scheme } : Url) = b.scheme.length := by
    unfold mU; dsimp only; rw [hp.user, hp.pass, hp.host, hp.text, hp.path]; simp [pathT]
  have hm2 : mU ({ p.u with scheme := b.scheme, hasHost := b.hasHost, host := b.host, port := b.port, user := b.user, pass := b.pass } : Url) = b.scheme.length + b.user.length + b.pass.length + b.host.length := by
    unfold mU; dsimp only; rw [hp.text, hp.path]; simp [pathT]
  have hbm : mU b = b.scheme.length + b.user.length + b.pass.length + b.host.length + (pathT b.path).length + b.text.length := rfl
  unfold relative
  rw [hob]
  dsimp only
  split
  · split
    · have g : mU (authP { p with u := { p.u with scheme := b.scheme } } (p.rest.dropWhile fun c => (slashes { p with u := { p.u with scheme := b.scheme } }).contains c)).u ≤ mU ({ p.u with scheme := b.scheme } : Url) + 3 * (p.rest.dropWhile fun c => (slashes { p with u := { p.u with scheme := b.scheme } }).contains c).length + 60 := m_auth _ _ hp.host hp.user hp.pass
      have := (List.dropWhile_sublist (l := p.rest) (fun c => (slashes { p with u := { p.u with scheme := b.scheme } }).contains c)).length_le
      refine Nat.le_trans g ?_
      omega
    · have g : mU (authP { p with u := { p.u with scheme := b.scheme } } (p.rest.drop 2)).u ≤ mU ({ p.u with scheme := b.scheme } : Url) + 3 * (p.rest.drop 2).length + 60 := m_auth _ _ hp.host hp.user hp.pass
      rw [List.length_drop] at g
      refine Nat.le_trans g ?_
      omega
  · split
    · rw [hw]
      have g : mU (pathP { p with u := { p.u with scheme := b.scheme, hasHost := b.hasHost, host := b.host, port := b.port, user := b.user, pass := b.pass } } p.rest).u ≤ mU ({ p.u with scheme := b.scheme, hasHost := b.hasHost, host := b.host, port := b.port, user := b.user, pass := b.pass } : Url) + 3 * p.rest.length + 3 := m_path _ _
      refine Nat.le_trans g ?_
      omega
    · split
      · rw [hw]
        unfold keep
        dsimp only
        rw [hb]
        dsimp only
        unfold mU at hm2 ⊢
        dsimp only at hm2 ⊢
        rw [hp.text] at hm2 ⊢
        omega
      · rw [hw]
        have g : mU (walkP { p with u := { p.u with scheme := b.scheme, hasHost := b.hasHost, host := b.host, port := b.port, user := b.user, pass := b.pass } } (shorten false (baseOf { p with u := { p.u with scheme := b.scheme } }).path) p.rest).u ≤ mU ({ p.u with scheme := b.scheme, hasHost := b.hasHost, host := b.host, port := b.port, user := b.user, pass := b.pass } : Url) + (pathT (shorten false (baseOf { p with u := { p.u with scheme := b.scheme } }).path)).length + 3 * p.rest.length + 3 := m_walkP _ _ _
        have e : baseOf { p with u := { p.u with scheme := b.scheme } } = b := hob
        have := shorten_lenv false b.path
        refine Nat.le_trans g ?_
        rw [e]
        omega
theorem m_start (s : Bs) (base : Option Url) : Pre (start s base).u ∧ (start s base).u.scheme.length + (start s base).rest.length + (start s base).query.length + (start s base).frag.length ≤ (clean s).length ∧ mU (start s base).u = (start s base).u.scheme.length := by
  obtain ⟨_, _, _, _, _, _, hpre, _, _⟩ := rest_facts s base
  refine ⟨hpre, ?_, ?_⟩
  · have h1 := cut1_sum 35 (clean s)
    have h2 := cut1_sum 63 (cut1 35 (clean s)).1
    unfold start
    dsimp only
    split
    · rename_i n r he
      have h3 : n.length + r.length ≤ (cut1 63 (cut1 35 (clean s)).1).1.length := by
        simp only [schemeP, Option.ite_none_right_eq_some, Option.some.injEq, Prod.mk.injEq] at he
        obtain ⟨_, rfl, rfl⟩ := he
        unfold lower
        rw [List.length_map]
        exact cut1_sum 58 _
      show n.length + r.length + (cut1 63 (cut1 35 (clean s)).1).2.1.length + (cut1 35 (clean s)).2.1.length ≤ _
      omega
    · show (0 : Nat) + (cut1 63 (cut1 35 (clean s)).1).1.length + (cut1 63 (cut1 35 (clean s)).1).2.1.length + (cut1 35 (clean s)).2.1.length ≤ _
      omega
  · unfold mU
    rw [hpre.user, hpre.pass, hpre.host, hpre.text, hpre.path]
    simp [pathT]
theorem m_opaque {p : PS} (h : p.u.text = []) : mU (opaqueP p).u ≤ mU p.u + 3 * p.rest.length + 3 := by
  have h1 := escape_lenv 0 p.rest
  have h2 := escape_lenv 0 p.rest.dropLast
  have h3 : p.rest.dropLast.length ≤ p.rest.length := (List.dropLast_sublist _).length_le
  unfold opaqueP
  split
  · unfold mU; dsimp only; rw [h]; simp only [List.length_append, List.length_cons, List.length_nil]; omega
  · unfold mU; dsimp only; rw [h]; simp only [List.length_nil]; omega
theorem m_run (s : Bs) (base : Option Url) : mU (run s base).u ≤ mB base + 3 * ((start s base).u.scheme.length + (start s base).rest.length) + 80 := by
  obtain ⟨hpre, _, hm⟩ := m_start s base
  obtain ⟨_, _, _, _, _, hbase⟩ := start_facts s base
  unfold run
  generalize start s base = p at *
  have hf : ∀ q : PS, Pre q.u → q.base = base ∨ q.base = none → mU (fileP q).u ≤ mB base + 3 * q.rest.length + 80 := by
    intro q hq hb
    have := m_file hq
    rcases hb with hb | hb
    · rw [hb] at this; exact this
    · rw [hb] at this
      have e : mB none = 0 := rfl
      omega
  split
  · unfold schemed
    split
    · split
      · have := hf p hpre (.inl hbase); omega
      · have : mU (fileP { p with base := none }).u ≤ mB base + 3 * p.rest.length + 80 := hf { p with base := none } hpre (.inr rfl)
        omega
    · split
      · split
        · rename_i h2
          simp only [Bool.and_eq_true] at h2
          have h2 := h2.1
          unfold based at h2
          split at h2
          · rename_i b e
            have g := m_rel hpre e
            have e2 : mB base = mU b := by rw [← hbase, e]; rfl
            omega
          · cases h2
        · have g := m_auth p (p.rest.dropWhile fun c => (slashes p).contains c) hpre.host hpre.user hpre.pass
          have := (List.dropWhile_sublist (l := p.rest) (fun c => (slashes p).contains c)).length_le
          omega
      · split
        · have g := m_auth p (p.rest.drop 2) hpre.host hpre.user hpre.pass
          rw [List.length_drop] at g
          omega
        · split
          · have g := m_path p p.rest; omega
          · have g := m_opaque (p := p) hpre.text; omega
  · unfold plain
    split
    · show mU p.u ≤ _; omega
    · rename_i b e
      have e2 : mB base = mU b := by rw [← hbase, e]; rfl
      split
      · have : mU ({ p.u with scheme := b.scheme, opq := true, text := b.text, hasQ := b.hasQ, query := b.query } : Url) ≤ mU b := by
          unfold mU; dsimp only; rw [hpre.user, hpre.pass, hpre.host, hpre.path]; simp only [pathT, List.flatMap_nil, List.length_nil]; omega
        refine Nat.le_trans this ?_
        omega
      · split
        · have := hf p hpre (.inl hbase); omega
        · have g := m_rel hpre e; omega
/-- How long a URL is, written. -/
theorem printU_len {u : Url} (hc : Can u) : (printU u).length ≤ mU u + u.query.length + u.frag.length + 20 := by
  have hh : (hpT u).length ≤ u.host.length + 6 := by
    unfold hpT
    rw [List.length_append]
    split
    · simp
    · rename_i hp
      rcases hc.port with h0 | ⟨h0, h1, _⟩
      · exact absurd h0 hp
      · rw [itoa_nat h0]
        have := dec_len5 (n := u.port.toNat) (by omega)
        simp only [List.length_cons]; omega
  have hw : (whomT u).length ≤ u.user.length + u.pass.length + u.host.length + 8 := by
    unfold whomT
    split
    · omega
    · simp only [List.length_append, List.length_cons]
      split
      · simp only [List.length_nil]; omega
      · simp only [List.length_cons]; omega
  have ha : (authU u).length ≤ u.user.length + u.pass.length + u.host.length + 10 := by
    cases h : u.hasHost with
    | true => rw [authU_eq h]; simp only [List.length_cons]; omega
    | false => unfold authU; rw [h]; simp
  have hd : (dotT u).length ≤ 2 := by unfold dotT; split <;> simp
  have hp : (pathU u).length ≤ (pathT u.path).length + u.text.length := by
    cases h : u.opq with
    | true => unfold pathU; rw [h]; simp
    | false => rw [pathU_eq h]; omega
  rw [printU_eq, bare_eq]
  unfold restT mU
  simp only [List.length_append, List.length_cons]
  split <;> split <;> simp only [List.length_cons, List.length_nil] <;> omega
theorem clean_len4 (l : Bs) : (clean l).length ≤ 4 * l.length := by
  have h1 : ∀ (k : Nat) (l : Bs), (decodeF k l).length ≤ k := by
    intro k
    induction k with
    | zero => intro l; simp [decodeF]
    | succ k ih =>
      intro l
      cases l with
      | nil => simp [decodeF]
      | cons c t => simp only [decodeF, List.length_cons]; have := ih ((c :: t).drop (first c t).2); omega
  have h2 : ∀ l : List Int, (encode l).length ≤ 4 * l.length := by
    intro l
    induction l with
    | nil => simp [encode]
    | cons r t ih =>
      have e : (enc1 r).length ≤ 4 := by unfold enc1; (repeat' split) <;> simp
      have : encode (r :: t) = enc1 r ++ encode t := rfl
      rw [this, List.length_append, List.length_cons]; omega
  have h3 : ∀ l : Bs, (trimB l).length ≤ l.length := by
    intro l
    unfold trimB
    rw [List.length_reverse]
    have a := (List.dropWhile_sublist (l := (l.dropWhile blank).reverse) blank).length_le
    have b := (List.dropWhile_sublist (l := l) blank).length_le
    rw [List.length_reverse] at a
    omega
  unfold clean dropWs
  have a := h1 l.length l
  have b := h2 (decode l)
  have c := h3 (encode (decode l))
  have d := (List.filter_sublist (l := trimB (encode (decode l))) (p := fun c => !(c == 9 || c == 10 || c == 13))).length_le
  unfold decode at *
  omega
/-- What stays of the query and the fragment. -/
def Keeps (p r : PS) : Prop := r.frag = p.frag ∧ r.query = p.query ∧ (r.u.query = [] ∨ ∃ b, p.base = some b ∧ r.u.query = b.query)
theorem keeps_fil {p : PS} (h0 : p.u.query = []) : Keeps p (fileP p) := by
  obtain ⟨a, b, _⟩ := kept_fil p
  refine ⟨b, a, ?_⟩
  rcases query_fil h0 with ⟨_, q⟩ | ⟨b, e, _, ⟨_, _, q⟩ | ⟨_, _, q⟩⟩
  · exact .inl q
  · exact .inl q
  · exact .inr ⟨b, e, q⟩
theorem keeps_rel {p : PS} {b : Url} (e : p.base = some b) (h0 : p.u.query = []) : Keeps p (relative p) := by
  obtain ⟨k1, k2, _⟩ := kept_rel p
  refine ⟨k2, k1, ?_⟩
  rcases query_rel e h0 with ⟨_, q⟩ | ⟨_, ⟨_, _, q⟩ | ⟨_, _, q⟩⟩
  · exact .inl q
  · exact .inl q
  · exact .inr ⟨b, e, q⟩
theorem keeps_sch {p r : PS} (h : Sch p r) (h0 : p.u.query = []) : Keeps p r := by
  obtain ⟨c1, c2, c3, c4, c5, c6, c7, c8⟩ := h
  exact ⟨c7, c6, .inl (c2.trans h0)⟩
theorem keeps_schemed {p : PS} (h0 : p.u.query = []) : Keeps p (schemed p) := by
  unfold schemed
  split
  · split
    · exact keeps_fil h0
    · obtain ⟨a, b, c⟩ := keeps_fil (p := { p with base := none }) h0
      refine ⟨a, b, ?_⟩
      rcases c with c | ⟨b, e, _⟩
      · exact .inl c
      · cases e
  · split
    · split
      · rename_i h2
        simp only [Bool.and_eq_true] at h2
        have h2 := h2.1
        unfold based at h2
        split at h2
        · rename_i b e
          exact keeps_rel e h0
        · cases h2
      · exact keeps_sch (sch_auth _ _) h0
    · split
      · exact keeps_sch (sch_auth _ _) h0
      · split
        · exact keeps_sch (sch_path _ _) h0
        · exact keeps_sch (sch_opaque _) h0
theorem keeps_plain {p : PS} (h0 : p.u.query = []) : Keeps p (plain p) := by
  unfold plain
  split
  · exact ⟨rfl, rfl, .inl h0⟩
  · rename_i b e
    split
    · exact ⟨rfl, rfl, .inr ⟨b, e, rfl⟩⟩
    · split
      · exact keeps_fil h0
      · exact keeps_rel e h0
theorem fin_len {p r : PS} (hk : Keeps p r) : mU (finish r).u = mU r.u ∧ (finish r).u.frag.length ≤ 3 * p.frag.length ∧ (finish r).u.query.length ≤ 3 * p.query.length + (match p.base with | some b => b.query.length | none => 0) := by
  obtain ⟨k1, k2, k3⟩ := hk
  refine ⟨rfl, ?_, ?_⟩
  · show (escape 1 r.frag).length ≤ _
    rw [k1]; exact escape_lenv 1 _
  · show (if r.query.isEmpty then r.u.query else escape (if special r.u.scheme then 3 else 2) r.query).length ≤ _
    split
    · rcases k3 with q | ⟨b, e, q⟩
      · rw [q]; simp
      · rw [q, e]; simp
    · rw [k2]
      have := escape_lenv (if special r.u.scheme then 3 else 2) p.query
      omega
def qB (b : Option Url) : Nat := match b with | some b => b.query.length | none => 0
/-- Of what was read: how long its parts are. -/
theorem m_parse {s : Bs} {base : Option Url} (h : (parse s base).2 = 0) :
    mU (parse s base).1 + (parse s base).1.query.length + (parse s base).1.frag.length ≤ mB base + qB base + 12 * s.length + 100 := by
  obtain ⟨_, he⟩ := not_bad h
  obtain ⟨hpre, hsum, _⟩ := m_start s base
  have hr := m_run s base
  have hc := clean_len4 s
  rw [he]
  obtain ⟨_, _, _, _, _, hbase⟩ := start_facts s base
  obtain ⟨_, _, _, _, _, _, _, hq0, _⟩ := rest_facts s base
  have hk : Keeps (start s base) (run s base) := by
    unfold run
    split
    · exact keeps_schemed hq0
    · exact keeps_plain hq0
  obtain ⟨f1, f2, f3⟩ := fin_len hk
  have e3 : (match (start s base).base with | some b => b.query.length | none => 0) = qB base := by rw [hbase]; rfl
  rw [e3] at f3
  clear hk he e3 hbase hq0 hpre
  show mU (finish (run s base)).u + (finish (run s base)).u.query.length + (finish (run s base)).u.frag.length ≤ _
  generalize run s base = R at *
  generalize start s base = p at *
  omega
theorem can_len {u : Url} (hc : Can u) (n : Nat) (h : mU u + u.query.length + u.frag.length ≤ n) : (printU u).length ≤ n + 20 := by
  have := printU_len hc; omega
end Go.Proofs.YtfonfcbibdfplaaGreatDoor

