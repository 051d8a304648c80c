/- TasksAwait: a step. -/
import Derived.Test.YtdganbddgobfdaaA1
namespace Go.Proofs.Ytdganbddgobfdaa
open Go.Proofs.Try
def awC (w p0 p1 : Nat) : Nat → Nat := fun i =>
  if i = 40 then (if p1 = 0 then 0 else if p1 = 1 then awX w else w) else if i = 41 then (if p0 = 0 then 0 else 1) else if i = 42 then (if p0 < 3 then 0 else 1) else 0
theorem awC_0 {w p1 : Nat} : (awC w 0 p1 41 + 1) % 18446744073709551616 = 1 ∧ up (awC w 0 p1) 41 1 = awC w 1 p1 := by
  refine ⟨rfl, ?_⟩
  funext i; simp only [up, awC]
  by_cases h : i = 41
  · subst h; rfl
  · rw [if_neg h]; simp [h]
theorem awC_1 {w p1 : Nat} : awC w 2 p1 = awC w 1 p1 ∧ awC w 4 p1 = awC w 3 p1 := by
  constructor <;> (funext i; simp [awC])
theorem awC_2 {w p1 : Nat} : (awC w 2 p1 42 + 1) % 18446744073709551616 = 1 ∧ up (awC w 2 p1) 42 1 = awC w 3 p1 := by
  refine ⟨rfl, ?_⟩
  funext i; simp only [up, awC]
  by_cases h : i = 42
  · subst h; rfl
  · rw [if_neg h]; simp [h]
theorem awC_s {w p0 : Nat} : up (awC w p0 0) 40 (awX w) = awC w p0 1 ∧ up (awC w p0 1) 40 w = awC w p0 2 ∧ awC w p0 3 = awC w p0 2 := by
  refine ⟨?_, ?_, ?_⟩
  · funext i; simp only [up, awC]; by_cases h : i = 40 <;> simp [h]
  · funext i; simp only [up, awC]; by_cases h : i = 40 <;> simp [h]
  · funext i; simp [awC]
def awA0 (w : Nat) : Nat → List Value
  | 0 => []
  | 1 => [iu 1]
  | 2 => [iu 1, iu w]
  | _ => [iu 1, iu w, iu 1]
def awA1 : Nat → List Value
  | 0 => []
  | 1 => [ib true]
  | _ => [ib true, ib true]
structure Aw0 (bw w p s : Nat) (t : TS) : Prop where
  f : t.f = waitF bw
  nx : t.nx = .nilFunc
  ans : t.ans = awA0 w p
  ended : t.ended = decide (p = 4)
  steps : t.steps = s
  answer : t.answer = if p = 4 then iu w else .nilIface
structure Aw1 (bw p s : Nat) (t : TS) : Prop where
  f : t.f = setsF bw
  nx : t.nx = .nilFunc
  ans : t.ans = awA1 p
  ended : t.ended = decide (p = 3)
  steps : t.steps = s
  answer : t.answer = .nilIface
set_option maxRecDepth 4000
attribute [local irreducible] SOps SC SOp SV SF SR DR SQ
section
variable {mb c lb pm tb dm bw w p0 p1 s0 s1 : Nat} {m : MS} {Γ : List HP}
theorem awStep0 {t0 t1 : TS} (hm : m.ts = [t0, t1]) (h : Aw0 bw w p0 s0 t0) (hp : p0 < 4) (hs : s0 < 100000) :
    SF PP 22 [pv mb, i64v 0] (awG bw w mb m lb pm tb dm (awC w p0 p1) Γ) (okp fun v Γ' => v = i64v 0 ∧ ∃ t0' p0', Aw0 bw w p0' (s0 + 1) t0' ∧ p0' = (if p0 = 1 then (if awC w p0 p1 40 = w then 2 else 1) else p0 + 1) ∧
      Γ' = awG bw w mb { m with ts := [t0', t1] } lb pm tb dm (awC w p0' p1) Γ) := by
  have hn : 0 < m.ts.length := by simp [hm]
  have h16 : m.ts.length ≤ 16 := by simp [hm]
  have e0 : m.ts[0] = t0 := by simp [hm]
  have he : m.ts[0].ended = false := by rw [e0, h.ended]; simp; omega
  have key : SF PP 113 [pv m.ts[0].b, pv mb] (pt m.ts[0].b m.ts[0].o :: m.ts[0].own :: pt mb m.o :: box1 bw (u64v w) 30 :: dkG m.db dm 1024 (arG m.ab lb pm tb 1024 960 (awC w p0 p1) (fun _ => false) Γ))
      (okp fun v Γ' => v = .tuple #[] ∧ ∃ t' : TS, t'.b = m.ts[0].b ∧ Aw0 bw w (if p0 = 1 then (if awC w p0 p1 40 = w then 2 else 1) else p0 + 1) (s0 + 1) t' ∧
        Γ' = pt t'.b t'.o :: t'.own :: pt mb (machO m.ab m.db m.bx m.ps m.l m.st) :: box1 bw (u64v w) 30 :: dkG m.db dm 1024 (arG m.ab lb pm tb 1024 960 (awC w (if p0 = 1 then (if awC w p0 p1 40 = w then 2 else 1) else p0 + 1) p1) (fun _ => false) Γ)) := by
    rw [e0] at he ⊢
    obtain ⟨tb', f, nx, sa, cap, ans, ended, steps, answer⟩ := t0
    obtain ⟨h1, h2, h4, h5, h6, h7⟩ := h
    simp only at h1 h2 h4 h5 h6 h7 he ⊢
    subst h1 h2 h4 he
    obtain rfl : answer = .nilIface := by rw [h7, if_neg (by omega)]
    have hq : p0 = 0 ∨ p0 = 1 ∨ p0 = 2 ∨ p0 = 3 := by omega
    rcases hq with rfl | rfl | rfl | rfl
    · refine SF.mono (show SF PP 113 [pv tb', pv mb] (pt tb' (tskO (waitF bw) .nilFunc (.slice sa 0 cap) false (steps : Nat) .nilIface) :: ownS 20 1 (.slice sa 0 cap) 0 [] :: pt mb m.o :: box1 bw (u64v w) 30 :: dkG m.db dm 1024 (arG m.ab lb pm tb 1024 960 (awC w 0 p1) (fun _ => false) Γ)) _ from
        stepLeft (k := 0) (k' := 1) (i := 0) (ans := []) (ans' := [iu 1]) (Γ₂ := pt mb m.o :: box1 bw (u64v w) 30 :: dkG m.db dm 1024 (arG m.ab lb pm tb 1024 960 (awC w 1 p1) (fun _ => false) Γ)) (by omega) (by omega) (fun a c1 => SV_fn rfl (by
          have h := wait0 (Γ := box1 c1 (pv a) tAct :: pt mb m.o :: box1 bw (u64v w) 30 :: dkG m.db dm 1024 (arG m.ab lb pm tb 1024 960 (awC w 0 p1) (fun _ => false) Γ)) (a := a) (mb := mb) (tb := tb') (bw := bw) (w := w) (nx := .nilFunc) (sa := sa) (cap := cap) (ended := false) (steps := (steps : Nat) + 1) (answer := .nilIface) (by omega) (by omega)
          rw [awC_0.1, awC_0.2] at h
          exact h))) ?_
      rintro e Γ' ⟨v, rfl, rfl, sa', cap', rfl⟩
      exact ⟨_, rfl, rfl, ⟨tb', waitF bw, .nilFunc, sa', cap', [iu 1], false, steps + 1, .nilIface⟩, rfl, ⟨rfl, rfl, rfl, rfl, by rw [← h6], rfl⟩, rfl⟩
    · by_cases hc : awC w 1 p1 40 = w
      · rw [if_pos rfl, if_pos hc]
        refine SF.mono (show SF PP 113 [pv tb', pv mb] (pt tb' (tskO (waitF bw) .nilFunc (.slice sa 1 cap) false (steps : Nat) .nilIface) :: ownS 20 1 (.slice sa 1 cap) 1 [iu 1] :: pt mb m.o :: box1 bw (u64v w) 30 :: dkG m.db dm 1024 (arG m.ab lb pm tb 1024 960 (awC w 1 p1) (fun _ => false) Γ)) _ from
          stepLeft (k := 1) (k' := 2) (i := 1) (ans := [iu 1]) (ans' := [iu 1, iu w]) (Γ₂ := pt mb m.o :: box1 bw (u64v w) 30 :: dkG m.db dm 1024 (arG m.ab lb pm tb 1024 960 (awC w 1 p1) (fun _ => false) Γ)) (by omega) (by omega) (fun a c1 => SV_fn rfl (by
            have h := wait1 (x := 1) (Γ := box1 c1 (pv a) tAct :: pt mb m.o :: box1 bw (u64v w) 30 :: dkG m.db dm 1024 (arG m.ab lb pm tb 1024 960 (awC w 1 p1) (fun _ => false) Γ)) (a := a) (mb := mb) (tb := tb') (bw := bw) (w := w) (nx := .nilFunc) (sa := sa) (cap := cap) (ended := false) (steps := (steps : Nat) + 1) (answer := .nilIface) (by omega) (by omega)
            rw [hc] at h
            simpa using h))) ?_
        rintro e Γ' ⟨v, rfl, rfl, sa', cap', rfl⟩
        exact ⟨_, rfl, rfl, ⟨tb', waitF bw, .nilFunc, sa', cap', [iu 1, iu w], false, steps + 1, .nilIface⟩, rfl, ⟨rfl, rfl, rfl, rfl, by rw [← h6], rfl⟩, by rw [awC_1.1]; rfl⟩
      · rw [if_pos rfl, if_neg hc]
        refine SF.mono (show SF PP 113 [pv tb', pv mb] (pt tb' (tskO (waitF bw) .nilFunc (.slice sa 1 cap) false (steps : Nat) .nilIface) :: ownS 20 1 (.slice sa 1 cap) 1 [iu 1] :: pt mb m.o :: box1 bw (u64v w) 30 :: dkG m.db dm 1024 (arG m.ab lb pm tb 1024 960 (awC w 1 p1) (fun _ => false) Γ)) _ from
          stepLeft (k := 1) (k' := 1) (i := 1) (ans := [iu 1]) (ans' := [iu 1]) (Γ₂ := pt mb m.o :: box1 bw (u64v w) 30 :: dkG m.db dm 1024 (arG m.ab lb pm tb 1024 960 (awC w 1 p1) (fun _ => false) Γ)) (by omega) (by omega) (fun a c1 => SV_fn rfl (by
            have h := wait1 (x := 1) (Γ := box1 c1 (pv a) tAct :: pt mb m.o :: box1 bw (u64v w) 30 :: dkG m.db dm 1024 (arG m.ab lb pm tb 1024 960 (awC w 1 p1) (fun _ => false) Γ)) (a := a) (mb := mb) (tb := tb') (bw := bw) (w := w) (nx := .nilFunc) (sa := sa) (cap := cap) (ended := false) (steps := (steps : Nat) + 1) (answer := .nilIface) (by omega) (by omega)
            simpa [hc] using h))) ?_
        rintro e Γ' ⟨v, rfl, rfl, sa', cap', rfl⟩
        exact ⟨_, rfl, rfl, ⟨tb', waitF bw, .nilFunc, sa', cap', [iu 1], false, steps + 1, .nilIface⟩, rfl, ⟨rfl, rfl, rfl, rfl, by rw [← h6], rfl⟩, rfl⟩
    · refine SF.mono (show SF PP 113 [pv tb', pv mb] (pt tb' (tskO (waitF bw) .nilFunc (.slice sa 2 cap) false (steps : Nat) .nilIface) :: ownS 20 1 (.slice sa 2 cap) 2 [iu 1, iu w] :: pt mb m.o :: box1 bw (u64v w) 30 :: dkG m.db dm 1024 (arG m.ab lb pm tb 1024 960 (awC w 2 p1) (fun _ => false) Γ)) _ from
        stepLeft (k := 2) (k' := 3) (i := 2) (ans := [iu 1, iu w]) (ans' := [iu 1, iu w, iu 1]) (Γ₂ := pt mb m.o :: box1 bw (u64v w) 30 :: dkG m.db dm 1024 (arG m.ab lb pm tb 1024 960 (awC w 3 p1) (fun _ => false) Γ)) (by omega) (by omega) (fun a c1 => SV_fn rfl (by
          have h := wait2 (x := 1) (y := w) (Γ := box1 c1 (pv a) tAct :: pt mb m.o :: box1 bw (u64v w) 30 :: dkG m.db dm 1024 (arG m.ab lb pm tb 1024 960 (awC w 2 p1) (fun _ => false) Γ)) (a := a) (mb := mb) (tb := tb') (bw := bw) (w := w) (nx := .nilFunc) (sa := sa) (cap := cap) (ended := false) (steps := (steps : Nat) + 1) (answer := .nilIface) (by omega) (by omega)
          rw [awC_2.1, awC_2.2] at h
          exact h))) ?_
      rintro e Γ' ⟨v, rfl, rfl, sa', cap', rfl⟩
      exact ⟨_, rfl, rfl, ⟨tb', waitF bw, .nilFunc, sa', cap', [iu 1, iu w, iu 1], false, steps + 1, .nilIface⟩, rfl, ⟨rfl, rfl, rfl, rfl, by rw [← h6], rfl⟩, rfl⟩
    · refine SF.mono (show SF PP 113 [pv tb', pv mb] (pt tb' (tskO (waitF bw) .nilFunc (.slice sa 3 cap) false (steps : Nat) .nilIface) :: ownS 20 1 (.slice sa 3 cap) 3 [iu 1, iu w, iu 1] :: pt mb m.o :: box1 bw (u64v w) 30 :: dkG m.db dm 1024 (arG m.ab lb pm tb 1024 960 (awC w 3 p1) (fun _ => false) Γ)) _ from
        stepEnd (k := 3) (i := 3) (v := iu w) (ans := [iu 1, iu w, iu 1]) (by omega) (by omega) rfl (fun a c => SV_fn rfl wait3)) ?_
      rintro e Γ' ⟨rfl, rfl⟩
      exact ⟨_, rfl, rfl, ⟨tb', waitF bw, .nilFunc, sa, cap, [iu 1, iu w, iu 1], true, steps + 1, iu w⟩, rfl, ⟨rfl, rfl, rfl, rfl, by rw [← h6], rfl⟩, by rw [← awC_1.2]; rfl⟩
  refine SF.mono (mStep hn h16 he key) ?_
  rintro e Γ' ⟨v, rfl, rfl, t', hb, hP, rfl⟩
  exact ⟨_, rfl, rfl, t', _, hP, rfl, by simp [hm]⟩
theorem awStep1 {t0 t1 : TS} (hm : m.ts = [t0, t1]) (h : Aw1 bw p1 s1 t1) (hp : p1 < 3) (hs : s1 < 100000) :
    SF PP 22 [pv mb, i64v 1] (awG bw w mb m lb pm tb dm (awC w p0 p1) Γ) (okp fun v Γ' => v = i64v 0 ∧ ∃ t1', Aw1 bw (p1 + 1) (s1 + 1) t1' ∧
      Γ' = awG bw w mb { m with ts := [t0, t1'] } lb pm tb dm (awC w p0 (p1 + 1)) Γ) := by
  have hn : 1 < m.ts.length := by simp [hm]
  have h16 : m.ts.length ≤ 16 := by simp [hm]
  have e0 : m.ts[1] = t1 := by simp [hm]
  have he : m.ts[1].ended = false := by rw [e0, h.ended]; simp; omega
  have key : SF PP 113 [pv m.ts[1].b, pv mb] (pt m.ts[1].b m.ts[1].o :: m.ts[1].own :: pt mb m.o :: box1 bw (u64v w) 30 :: dkG m.db dm 1024 (arG m.ab lb pm tb 1024 960 (awC w p0 p1) (fun _ => false) Γ))
      (okp fun v Γ' => v = .tuple #[] ∧ ∃ t' : TS, t'.b = m.ts[1].b ∧ Aw1 bw (p1 + 1) (s1 + 1) t' ∧ Γ' = pt t'.b t'.o :: t'.own :: pt mb (machO m.ab m.db m.bx m.ps m.l m.st) :: box1 bw (u64v w) 30 :: dkG m.db dm 1024 (arG m.ab lb pm tb 1024 960 (awC w p0 (p1 + 1)) (fun _ => false) Γ)) := by
    rw [e0] at he ⊢
    obtain ⟨tb', f, nx, sa, cap, ans, ended, steps, answer⟩ := t1
    obtain ⟨h1, h2, h4, h5, h6, h7⟩ := h
    simp only at h1 h2 h4 h5 h6 h7 he ⊢
    subst h1 h2 h4 he h7
    have hq : p1 = 0 ∨ p1 = 1 ∨ p1 = 2 := by omega
    rcases hq with rfl | rfl | rfl
    · refine SF.mono (show SF PP 113 [pv tb', pv mb] (pt tb' (tskO (setsF bw) .nilFunc (.slice sa 0 cap) false (steps : Nat) .nilIface) :: ownS 20 1 (.slice sa 0 cap) 0 [] :: pt mb m.o :: box1 bw (u64v w) 30 :: dkG m.db dm 1024 (arG m.ab lb pm tb 1024 960 (awC w p0 0) (fun _ => false) Γ)) _ from
        stepLeft (k := 0) (k' := 1) (i := 0) (ans := []) (ans' := [ib true]) (Γ₂ := pt mb m.o :: box1 bw (u64v w) 30 :: dkG m.db dm 1024 (arG m.ab lb pm tb 1024 960 (awC w p0 1) (fun _ => false) Γ)) (by omega) (by omega) (fun a c1 => SV_fn rfl (by
          have h := sets0 (Γ := box1 c1 (pv a) tAct :: pt mb m.o :: box1 bw (u64v w) 30 :: dkG m.db dm 1024 (arG m.ab lb pm tb 1024 960 (awC w p0 0) (fun _ => false) Γ)) (a := a) (mb := mb) (tb := tb') (bw := bw) (w := w) (nx := .nilFunc) (sa := sa) (cap := cap) (ended := false) (steps := (steps : Nat) + 1) (answer := .nilIface) (by omega) (by omega)
          rw [awC_s.1] at h
          exact h))) ?_
      rintro e Γ' ⟨v, rfl, rfl, sa', cap', rfl⟩
      exact ⟨_, rfl, rfl, ⟨tb', setsF bw, .nilFunc, sa', cap', [ib true], false, steps + 1, .nilIface⟩, rfl, ⟨rfl, rfl, rfl, rfl, by rw [← h6], rfl⟩, rfl⟩
    · refine SF.mono (show SF PP 113 [pv tb', pv mb] (pt tb' (tskO (setsF bw) .nilFunc (.slice sa 1 cap) false (steps : Nat) .nilIface) :: ownS 20 1 (.slice sa 1 cap) 1 [ib true] :: pt mb m.o :: box1 bw (u64v w) 30 :: dkG m.db dm 1024 (arG m.ab lb pm tb 1024 960 (awC w p0 1) (fun _ => false) Γ)) _ from
        stepLeft (k := 1) (k' := 2) (i := 1) (ans := [ib true]) (ans' := [ib true, ib true]) (Γ₂ := pt mb m.o :: box1 bw (u64v w) 30 :: dkG m.db dm 1024 (arG m.ab lb pm tb 1024 960 (awC w p0 2) (fun _ => false) Γ)) (by omega) (by omega) (fun a c1 => SV_fn rfl (by
          have h := sets1 (Γ := box1 c1 (pv a) tAct :: pt mb m.o :: box1 bw (u64v w) 30 :: dkG m.db dm 1024 (arG m.ab lb pm tb 1024 960 (awC w p0 1) (fun _ => false) Γ)) (a := a) (mb := mb) (tb := tb') (bw := bw) (w := w) (nx := .nilFunc) (sa := sa) (cap := cap) (ended := false) (steps := (steps : Nat) + 1) (answer := .nilIface) (by omega) (by omega)
          rw [awC_s.2.1] at h
          exact h))) ?_
      rintro e Γ' ⟨v, rfl, rfl, sa', cap', rfl⟩
      exact ⟨_, rfl, rfl, ⟨tb', setsF bw, .nilFunc, sa', cap', [ib true, ib true], false, steps + 1, .nilIface⟩, rfl, ⟨rfl, rfl, rfl, rfl, by rw [← h6], rfl⟩, rfl⟩
    · refine SF.mono (show SF PP 113 [pv tb', pv mb] (pt tb' (tskO (setsF bw) .nilFunc (.slice sa 2 cap) false (steps : Nat) .nilIface) :: ownS 20 1 (.slice sa 2 cap) 2 [ib true, ib true] :: pt mb m.o :: box1 bw (u64v w) 30 :: dkG m.db dm 1024 (arG m.ab lb pm tb 1024 960 (awC w p0 2) (fun _ => false) Γ)) _ from
        stepEnd (k := 2) (i := 2) (v := .nilIface) (ans := [ib true, ib true]) (by omega) (by omega) rfl (fun a c => SV_fn rfl (sets2 (w := w)))) ?_
      rintro e Γ' ⟨rfl, rfl⟩
      exact ⟨_, rfl, rfl, ⟨tb', setsF bw, .nilFunc, sa, cap, [ib true, ib true], true, steps + 1, .nilIface⟩, rfl, ⟨rfl, rfl, rfl, rfl, by rw [← h6], rfl⟩, by rw [← awC_s.2.2]; rfl⟩
  refine SF.mono (mStep hn h16 he key) ?_
  rintro e Γ' ⟨v, rfl, rfl, t', hb, hP, rfl⟩
  exact ⟨_, rfl, rfl, t', hP, by simp [hm]⟩
end
end Go.Proofs.Ytdganbddgobfdaa
