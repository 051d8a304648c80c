/- Several tasks that add to cell 10, in numbers; the chapter's rows. -/
import Derived.Test.YtdganbddgobfdaaK1
namespace Go.Proofs.Ytdganbddgobfdaa
open Go.Proofs.Try
/-- What is in the captured variables. -/
def capsR (bs : List Nat) : HP := grp (bs.map fun b => box1 b (u64v 10) 30)
theorem readsCap {bs : List Nat} {n : Nat} (h : n < bs.length) {Γ : List HP} : Reads (capsR bs :: Γ) bs[n] (.cells [u64v 10].toArray 30 (0, 0)) := ⟨fun _ _ s => by
  have s1 := sat_grp.1 s
  have s2 := sat_perm (List.Perm.append_right _ ((perm_erase bs n h).map fun b => box1 b (u64v 10) 30)) s1
  exact sat_pt s2⟩
theorem sat_cap_new {bs : List Nat} {b : Nat} {w : World} {Γ : List HP} (s : sat w (box1 b (u64v 10) 30 :: capsR bs :: Γ)) : sat w (capsR (bs ++ [b]) :: Γ) := by
  have s1 := sat_grp.1 (sat_perm (List.Perm.swap _ _ _) s)
  refine sat_grp.2 (sat_perm ?_ s1)
  rw [List.map_append, List.append_assoc]
  exact List.Perm.refl _
theorem sat_cap_nil {w : World} {Γ : List HP} (s : sat w Γ) : sat w (capsR [] :: Γ) := sat_grp.2 s
/-- A task in its phase p.1, that read p.2. -/
def adAns : Nat × Nat → List Value
  | (0, _) => []
  | (1, w) => [iu w]
  | (_, w) => [iu w, ib true]
structure AdT (b : Nat) (t : TS) (p : Nat × Nat) : Prop where
  f : t.f = addsF b
  nx : t.nx = .nilFunc
  ans : t.ans = adAns p
  ended : t.ended = decide (p.1 = 3)
  steps : t.steps = p.1
  answer : t.answer = if p.1 = 3 then iu (p.2 + 1) else .nilIface
structure Rep (ts : List TS) (bs : List Nat) (ps : List (Nat × Nat)) : Prop where
  lt : ts.length = ps.length
  lb : bs.length = ps.length
  each : ∀ j (h : j < ps.length), AdT (bs[j]'(by omega)) (ts[j]'(by omega)) ps[j]
/-- One step: the task's phase, the cell's word. -/
def adStep (c : Nat) : Nat × Nat → (Nat × Nat) × Nat
  | (0, _) => ((1, c), c)
  | (1, w) => ((2, w), w + 1)
  | (_, w) => ((3, w), c)
def c10 (c : Nat) : Nat → Nat := fun i => if i = 10 then c else 0
theorem c10_up {c w : Nat} : up (c10 c) 10 w = c10 w := by
  funext i; simp only [up, c10]; split <;> rfl
def goP (ps : List (Nat × Nat)) : List Nat := (List.range ps.length).filter fun j => decide (¬ (ps.getD j (0, 0)).1 = 3)
theorem goL_rep {ts : List TS} {bs : List Nat} {ps : List (Nat × Nat)} (h : Rep ts bs ps) : goL ts = goP ps := by
  unfold goL goTo goP
  rw [h.lt]
  apply List.filter_congr
  intro j hj
  have hj' : j < ps.length := by simpa using hj
  have h1 := (h.each j hj').ended
  have hlt : j < ts.length := by rw [h.lt]; exact hj'
  simp only [goesOn, List.getElem?_eq_getElem hlt, h1, List.getD_eq_getElem?_getD, List.getElem?_eq_getElem hj', Option.getD_some]
  simp
theorem Rep.set {ts : List TS} {bs : List Nat} {ps : List (Nat × Nat)} (h : Rep ts bs ps) {n : Nat} (hn : n < ps.length) {t : TS} {p : Nat × Nat} (ht : AdT (bs[n]'(by rw [h.lb]; exact hn)) t p) : Rep (ts.set n t) bs (ps.set n p) := by
  refine ⟨by simp [h.lt], by simp [h.lb], fun j hj => ?_⟩
  have hj' : j < ps.length := by simpa using hj
  by_cases e : n = j
  · subst e; simpa using ht
  · have := h.each j hj'
    simpa [List.getElem_set, e] using this
theorem Rep.add {ts : List TS} {bs : List Nat} {ps : List (Nat × Nat)} (h : Rep ts bs ps) {t : TS} {b : Nat} {p : Nat × Nat} (ht : AdT b t p) : Rep (ts ++ [t]) (bs ++ [b]) (ps ++ [p]) := by
  refine ⟨by simp [h.lt], by simp [h.lb], fun j hj => ?_⟩
  by_cases e : j < ps.length
  · have := h.each j e
    simpa [List.getElem_append, e, h.lt, h.lb] using this
  · have e2 : j = ps.length := by simp at hj; omega
    subst e2
    simpa [List.getElem_append, h.lt, h.lb] using ht
set_option maxRecDepth 4000
attribute [local irreducible] SOps SC SOp SV SF SR DR SQ
section
variable {mb n c lb pm tb dm : Nat} {m : MS} {bs : List Nat} {ps : List (Nat × Nat)} {Γ : List HP}
abbrev kG (mb : Nat) (m : MS) (bs : List Nat) (lb pm tb dm c : Nat) (Γ : List HP) : List HP := machG mb m (capsR bs :: dkG m.db dm 1024 (arG m.ab lb pm tb 1024 960 (c10 c) (fun _ => false) Γ))
theorem kStep (h : Rep m.ts bs ps) (hn : n < ps.length) (h16 : ps.length ≤ 16) (h3 : ps[n].1 < 3) (hw : ps[n].2 < 1000) :
    SF PP 22 [pv mb, i64v n] (kG mb m bs lb pm tb dm c Γ) (okp fun v Γ' => v = i64v 0 ∧ ∃ ts', Rep ts' bs (ps.set n (adStep c ps[n]).1) ∧ Γ' = kG mb { m with ts := ts' } bs lb pm tb dm (adStep c ps[n]).2 Γ) := by
  have hnt : n < m.ts.length := by rw [h.lt]; exact hn
  have hnb : n < bs.length := by rw [h.lb]; exact hn
  have ht := h.each n hn
  have h16' : m.ts.length ≤ 16 := by rw [h.lt]; exact h16
  have hR : ∀ {Γ : List HP}, Reads (capsR bs :: Γ) bs[n] (.cells [u64v 10].toArray 30 (0, 0)) := readsCap hnb
  have he : m.ts[n].ended = false := by rw [ht.ended]; simp; omega
  have key : SF PP 113 [pv m.ts[n].b, pv mb] (pt m.ts[n].b m.ts[n].o :: m.ts[n].own :: pt mb m.o :: capsR bs :: dkG m.db dm 1024 (arG m.ab lb pm tb 1024 960 (c10 c) (fun _ => false) Γ))
      (okp fun v Γ' => v = .tuple #[] ∧ ∃ t' : TS, t'.b = m.ts[n].b ∧ AdT bs[n] t' (adStep c ps[n]).1 ∧ Γ' = pt t'.b t'.o :: t'.own :: pt mb (machO m.ab m.db m.bx m.ps m.l m.st) :: capsR bs :: dkG m.db dm 1024 (arG m.ab lb pm tb 1024 960 (c10 (adStep c ps[n]).2) (fun _ => false) Γ)) := by
    generalize m.ts[n] = t at *
    obtain ⟨tb', f, nx, sa, cap, ans, ended, steps, answer⟩ := t
    obtain ⟨h1, h2, h4, h5, h6, h7⟩ := ht
    simp only at h1 h2 h4 h5 h6 h7 he ⊢
    generalize ps[n] = p at *
    obtain ⟨q, w⟩ := p
    simp only at h3 hw h4 h5 h6 h7
    subst h1 h2 h4
    obtain rfl : steps = q := h6
    have hq : steps = 0 ∨ steps = 1 ∨ steps = 2 := by omega
    have hq1 := hq
    rcases hq with rfl | rfl | rfl
    · obtain rfl : ended = false := he
      obtain rfl : answer = .nilIface := by simpa using h7
      refine SF.mono (show SF PP 113 [pv tb', pv mb] (pt tb' (tskO (addsF bs[n]) .nilFunc (.slice sa 0 cap) false (0 : Nat) .nilIface) :: ownS 20 1 (.slice sa 0 cap) 0 [] :: pt mb m.o :: capsR bs :: dkG m.db dm 1024 (arG m.ab lb pm tb 1024 960 (c10 c) (fun _ => false) Γ)) _ from stepLeft (k := 0) (ans := []) (by omega) (by omega) (fun a c => SV_fn rfl (adds0 (i := 10) (by omega) (by omega) (by omega)))) ?_
      rintro e Γ' ⟨v, rfl, rfl, sa', cap', rfl⟩
      exact ⟨_, rfl, rfl, ⟨tb', addsF bs[n], .nilFunc, sa', cap', [iu c], false, 1, .nilIface⟩, rfl, ⟨rfl, rfl, rfl, rfl, rfl, rfl⟩, rfl⟩
    · obtain rfl : ended = false := he
      obtain rfl : answer = .nilIface := by simpa using h7
      refine SF.mono (show SF PP 113 [pv tb', pv mb] (pt tb' (tskO (addsF bs[n]) .nilFunc (.slice sa 1 cap) false (1 : Nat) .nilIface) :: ownS 20 1 (.slice sa 1 cap) 1 [iu w] :: pt mb m.o :: capsR bs :: dkG m.db dm 1024 (arG m.ab lb pm tb 1024 960 (c10 c) (fun _ => false) Γ)) _ from stepLeft (k := 1) (k' := 2) (i := 1) (ans := [iu w]) (ans' := [iu w, ib true]) (Γ₂ := pt mb m.o :: capsR bs :: dkG m.db dm 1024 (arG m.ab lb pm tb 1024 960 (up (c10 c) 10 (w + 1)) (fun _ => false) Γ)) (by omega) (by omega) (fun a c1 => SV_fn rfl (by
        have h := adds1 (Γ := box1 c1 (pv a) tAct :: pt mb m.o :: capsR bs :: dkG m.db dm 1024 (arG m.ab lb pm tb 1024 960 (c10 c) (fun _ => false) Γ)) (a := a) (mb := mb) (tb := tb') (b := bs[n]) (nx := .nilFunc) (sa := sa) (cap := cap) (ended := false) (steps := (1 : Nat) + 1) (answer := .nilIface) (i := 10) (w := w) (by omega) (by omega) (by omega) hw
        exact h))) ?_
      rintro e Γ' ⟨v, rfl, rfl, sa', cap', rfl⟩
      exact ⟨_, rfl, rfl, ⟨tb', addsF bs[n], .nilFunc, sa', cap', [iu w, ib true], false, 2, .nilIface⟩, rfl, ⟨rfl, rfl, rfl, rfl, rfl, rfl⟩, by rw [c10_up]; rfl⟩
    · obtain rfl : ended = false := he
      obtain rfl : answer = .nilIface := by simpa using h7
      refine SF.mono (show SF PP 113 [pv tb', pv mb] (pt tb' (tskO (addsF bs[n]) .nilFunc (.slice sa 2 cap) false (2 : Nat) .nilIface) :: ownS 20 1 (.slice sa 2 cap) 2 [iu w, ib true] :: pt mb m.o :: capsR bs :: dkG m.db dm 1024 (arG m.ab lb pm tb 1024 960 (c10 c) (fun _ => false) Γ)) _ from stepEnd (k := 2) (i := 2) (v := iu (w + 1)) (ans := [iu w, ib true]) (by omega) (by omega) rfl (fun a c => SV_fn rfl (adds2 hw))) ?_
      rintro e Γ' ⟨rfl, rfl⟩
      exact ⟨_, rfl, rfl, ⟨tb', addsF bs[n], .nilFunc, sa, cap, [iu w, ib true], true, 3, iu (w + 1)⟩, rfl, ⟨rfl, rfl, rfl, rfl, rfl, rfl⟩, rfl⟩
  refine SF.mono (mStep hnt h16' he key) ?_
  rintro e Γ' ⟨v, rfl, rfl, t', hb, hP, rfl⟩
  exact ⟨_, rfl, rfl, m.ts.set n t', h.set hn hP, rfl⟩
end
end Go.Proofs.Ytdganbddgobfdaa
