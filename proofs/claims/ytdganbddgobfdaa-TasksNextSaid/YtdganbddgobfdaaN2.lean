/- TasksNext: a step. -/
import Derived.Test.YtdganbddgobfdaaN1
namespace Go.Proofs.Ytdganbddgobfdaa
open Go.Proofs.Try
structure NxT (bw bn bc bR h x i : Nat) (t : TS) : Prop where
  f : t.f = cntF bw
  nx : t.nx = nxtF bn bc bR
  ans : t.ans = if h = 0 then [] else [iu x]
  ended : t.ended = false
  steps : t.steps = i
  answer : t.answer = .nilIface
abbrev nG (mb : Nat) (m : MS) (bw bn bc bR was n : Nat) (R : Int) (lb pm tbk dm s : Nat) (Γ : List HP) : List HP :=
  machG mb m (nxG bw bn bc bR was n R (dkG m.db dm 1024 (arG m.ab lb pm tbk 1024 960 (c50 s) (fun _ => false) Γ)))
set_option maxRecDepth 4000
attribute [local irreducible] SOps SC SOp SV SF SR DR SQ
section
variable {mb bw bn bc bR was n' s lb pm tbk dm i x : Nat} {R : Int} {Γ : List HP} {m : MS}
theorem nxStepA {t : TS} (hm : m.ts = [t]) (h : NxT bw bn bc bR 0 x i t) (hi : i < 10000) (hw : was < 1000) (hs : s < 1000000) :
    SF PP 22 [pv mb, i64v 0] (nG mb m bw bn bc bR was n' R lb pm tbk dm s Γ) (okp fun v Γ' => v = i64v 0 ∧ ∃ t', NxT bw bn bc bR 1 (s + was) (i + 1) t' ∧ Γ' = nG mb { m with ts := [t'] } bw bn bc bR was n' R lb pm tbk dm (s + was) Γ) := by
  have hn : 0 < m.ts.length := by simp [hm]
  have h16 : m.ts.length ≤ 16 := by simp [hm]
  have e0 : m.ts[0] = t := by simp [hm]
  have key : SF PP 113 [pv m.ts[0].b, pv mb] (pt m.ts[0].b m.ts[0].o :: m.ts[0].own :: pt mb m.o :: nxG bw bn bc bR was n' R (dkG m.db dm 1024 (arG m.ab lb pm tbk 1024 960 (c50 s) (fun _ => false) Γ)))
      (okp fun v Γ' => v = .tuple #[] ∧ ∃ t' : TS, t'.b = m.ts[0].b ∧ NxT bw bn bc bR 1 (s + was) (i + 1) t' ∧
        Γ' = pt t'.b t'.o :: t'.own :: pt mb (machO m.ab m.db m.bx m.ps m.l m.st) :: nxG bw bn bc bR was n' R (dkG m.db dm 1024 (arG m.ab lb pm tbk 1024 960 (c50 (s + was)) (fun _ => false) Γ))) := by
    rw [e0]
    obtain ⟨tb', f, nx, sa, cap, ans, ended, steps, answer⟩ := t
    obtain ⟨h1, h2, h4, h5, h6, h7⟩ := h
    simp only at h1 h2 h4 h5 h6 h7 ⊢
    obtain rfl : ans = [] := by simpa using h4
    subst h1 h2 h5 h7
    refine SF.mono (show SF PP 113 [pv tb', pv mb] (pt tb' (tskO (cntF bw) (nxtF bn bc bR) (.slice sa 0 cap) false (steps : Nat) .nilIface) :: ownS 20 1 (.slice sa 0 cap) 0 [] :: pt mb m.o :: nxG bw bn bc bR was n' R (dkG m.db dm 1024 (arG m.ab lb pm tbk 1024 960 (c50 s) (fun _ => false) Γ))) _ from
      stepLeft (k := 0) (k' := 1) (i := 0) (ans := []) (ans' := [iu (s + was)]) (Γ₂ := pt mb m.o :: nxG bw bn bc bR was n' R (dkG m.db dm 1024 (arG m.ab lb pm tbk 1024 960 (c50 (s + was)) (fun _ => false) Γ))) (by omega) (by omega) (fun a c1 => SV_fn rfl (cnt0 hw hs))) ?_
    rintro e Γ' ⟨v, rfl, rfl, sa', cap', rfl⟩
    exact ⟨_, rfl, rfl, ⟨tb', cntF bw, nxtF bn bc bR, sa', cap', [iu (s + was)], false, steps + 1, .nilIface⟩, rfl, ⟨rfl, rfl, rfl, rfl, by rw [← h6], rfl⟩, rfl⟩
  refine SF.mono (mStep hn h16 (by rw [e0, h.ended]) key) ?_
  rintro e Γ' ⟨v, rfl, rfl, t', hb, hP, rfl⟩
  exact ⟨_, rfl, rfl, t', hP, by simp [hm]⟩
theorem nxStepB {t : TS} (hm : m.ts = [t]) (h : NxT bw bn bc bR 1 x i t) (hi : i < 10000) (hw : was < 1000) :
    SF PP 22 [pv mb, i64v 0] (nG mb m bw bn bc bR was n' R lb pm tbk dm s Γ) (okp fun v Γ' => v = i64v 0 ∧ ∃ t' bw', (if ((was + 1 : Nat) : Int) < R then NxT bw' bn bc bR 0 0 (i + 1) t' else t'.ended = true ∧ plainV t'.answer = true) ∧
      Γ' = nG mb { m with ts := [t'] } bw' bn bc bR (was + 1) (was + 1) R lb pm tbk dm s Γ) := by
  have hn : 0 < m.ts.length := by simp [hm]
  have h16 : m.ts.length ≤ 16 := by simp [hm]
  have e0 : m.ts[0] = t := by simp [hm]
  have key : SF PP 113 [pv m.ts[0].b, pv mb] (pt m.ts[0].b m.ts[0].o :: m.ts[0].own :: pt mb m.o :: nxG bw bn bc bR was n' R (dkG m.db dm 1024 (arG m.ab lb pm tbk 1024 960 (c50 s) (fun _ => false) Γ)))
      (okp fun v Γ' => v = .tuple #[] ∧ ∃ bw' : Nat, ∃ t' : TS, t'.b = m.ts[0].b ∧ (if ((was + 1 : Nat) : Int) < R then NxT bw' bn bc bR 0 0 (i + 1) t' else t'.ended = true ∧ plainV t'.answer = true) ∧
        Γ' = pt t'.b t'.o :: t'.own :: pt mb (machO m.ab m.db m.bx m.ps m.l m.st) :: nxG bw' bn bc bR (was + 1) (was + 1) R (dkG m.db dm 1024 (arG m.ab lb pm tbk 1024 960 (c50 s) (fun _ => false) Γ))) := by
    rw [e0]
    obtain ⟨tb', f, nx, sa, cap, ans, ended, steps, answer⟩ := t
    obtain ⟨h1, h2, h4, h5, h6, h7⟩ := h
    simp only at h1 h2 h4 h5 h6 h7 ⊢
    obtain rfl : ans = [iu x] := by simpa using h4
    subst h1 h2 h5 h7
    refine SF.conv (show SF PP 113 [pv tb', pv mb] (pt tb' (tskO (cntF bw) (nxtF bn bc bR) (.slice sa 1 cap) false (steps : Nat) .nilIface) :: ownS 20 1 (.slice sa 1 cap) 1 [iu x] :: pt mb m.o :: nxG bw bn bc bR was n' R (dkG m.db dm 1024 (arG m.ab lb pm tbk 1024 960 (c50 s) (fun _ => false) Γ))) _ from
      stepNext (α := Nat) (k := 1) (i := 1) (v := iint (was + 1)) (ans := [iu x]) (f2 := 18) (first2 := fun _ => #[]) (cap2 := fun b => #[pv b]) (more := decide (((was + 1 : Nat) : Int) < R))
        (Γ₂ := fun b => pt mb m.o :: nxG b bn bc bR (was + 1) (was + 1) R (dkG m.db dm 1024 (arG m.ab lb pm tbk 1024 960 (c50 s) (fun _ => false) Γ))) (by omega) (by omega) rfl (fun a c1 => SV_fn rfl (cnt1 hw)) (fun a c1 => ?_)) ?_
    · refine SV.wk (SV.frame (Δ := [box1 bn (i64v n') 3, box1 bc cntMk 32, box1 bR (i64v R) 3]) (SV_fn rfl (nxtOk (Γ := []) (k := was + 1))) take_p) ?_
      rintro e Γ' ⟨Δ', ⟨w, rfl, b, rfl, rfl⟩, rfl⟩
      simp only [List.cons_append, List.nil_append]
      exact wk0 (Δ := actAt a mb tb' 1 1 (cntF bw) (nxtF bn bc bR) sa cap true (steps + 1) (iint (was + 1)) [iu x] (box1 c1 (pv a) tAct :: pt mb m.o :: nxG b bn bc bR (was + 1) (was + 1) R (dkG m.db dm 1024 (arG m.ab lb pm tbk 1024 960 (c50 s) (fun _ => false) Γ)))) ⟨_, rfl, b, rfl, rfl⟩
    · rintro e Γ' ⟨v, rfl, rfl, b, rfl⟩
      by_cases hm : ((was + 1 : Nat) : Int) < R
      · rw [decide_eq_true hm, if_pos rfl]
        refine ⟨pt tb' ({ b := tb', f := cntF b, nx := nxtF bn bc bR, steps := steps + 1 } : TS).o :: ({ b := tb', f := cntF b, nx := nxtF bn bc bR, steps := steps + 1 } : TS).own :: pt mb m.o :: nxG b bn bc bR (was + 1) (was + 1) R (dkG m.db dm 1024 (arG m.ab lb pm tbk 1024 960 (c50 s) (fun _ => false) Γ)), fun w R s => ?_, ?_⟩
        · exact sat_perm (List.Perm.swap _ _ _) (sat_ownS_nil s)
        · refine ⟨_, rfl, rfl, b, { b := tb', f := cntF b, nx := nxtF bn bc bR, steps := steps + 1 }, rfl, ?_, rfl⟩
          rw [if_pos hm]
          exact ⟨rfl, rfl, rfl, rfl, by rw [← h6], rfl⟩
      · rw [decide_eq_false hm, if_neg (by simp)]
        refine ⟨_, fun w R s => s, _, rfl, rfl, b, ⟨tb', cntF bw, nxtF bn bc bR, sa, cap, [iu x], true, steps + 1, iint (was + 1)⟩, rfl, ?_, rfl⟩
        rw [if_neg hm]
        exact ⟨rfl, rfl⟩
  refine SF.mono (mStepX (α := Nat) (Γx := fun b => nxG b bn bc bR (was + 1) (was + 1) R (dkG m.db dm 1024 (arG m.ab lb pm tbk 1024 960 (c50 s) (fun _ => false) Γ))) (bx' := m.bx) (ps' := m.ps) (st' := m.st)
    (P := fun b t' => if ((was + 1 : Nat) : Int) < R then NxT b bn bc bR 0 0 (i + 1) t' else t'.ended = true ∧ plainV t'.answer = true) hn h16 (by rw [e0, h.ended]) key) ?_
  rintro e Γ' ⟨v, rfl, rfl, b, t', hb, hP, rfl⟩
  exact ⟨_, rfl, rfl, t', b, hP, by simp [hm]⟩
end
end Go.Proofs.Ytdganbddgobfdaa
