/- The chapter's rows on tasks. -/
import Derived.Test.YtdganbddgobfdaaK2
namespace Go.Proofs.Ytdganbddgobfdaa
open Go.Proofs.Try
def runP : List Nat → List (Nat × Nat) × Nat → List (Nat × Nat) × Nat
  | [], s => s
  | j :: l, (ps, c) => runP l (ps.set j (adStep c (ps.getD j (0, 0))).1, (adStep c (ps.getD j (0, 0))).2)
def psI : List (Nat × Nat) × Nat := (List.replicate 4 (0, 0), 0)
def psA (i k : Nat) : List (Nat × Nat) × Nat := runP ([0, 0, 0, 1, 1, 1].take (3 * i + k)) psI
def psR (i : Nat) : List (Nat × Nat) × Nat := runP ([2, 3, 2, 3, 2, 3].take i) (psA 2 0)
def picksK : List Int := [0, 1, 0, 1, 0, 0, 0]
theorem psA_ok : ∀ i < 2, ∀ k < 3, (psA i k).1.length = 4 ∧ ((psA i k).1.getD i (0, 0)).1 = k ∧ ((psA i k).1.getD i (0, 0)).2 < 1000 ∧ psA i (k + 1) = ((psA i k).1.set i (adStep (psA i k).2 ((psA i k).1.getD i (0, 0))).1, (adStep (psA i k).2 ((psA i k).1.getD i (0, 0))).2) := by decide
theorem psA_next : ∀ i < 2, psA (i + 1) 0 = psA i 3 ∧ (psA i 3).1.length = 4 ∧ (psA i 3).1.getD i (0, 0) = (3, i) ∧ (psA i 3).2 = i + 1 := by decide
theorem psR_ok : ∀ i < 6, (psR i).1.length = 4 ∧ pickOf (goP (psR i).1) (picksK.getD i 0) < 4 ∧ goP (psR i).1 ≠ [] ∧ ((psR i).1.getD (pickOf (goP (psR i).1) (picksK.getD i 0)) (0, 0)).1 < 3 ∧ ((psR i).1.getD (pickOf (goP (psR i).1) (picksK.getD i 0)) (0, 0)).2 < 1000 ∧
    psR (i + 1) = ((psR i).1.set (pickOf (goP (psR i).1) (picksK.getD i 0)) (adStep (psR i).2 ((psR i).1.getD (pickOf (goP (psR i).1) (picksK.getD i 0)) (0, 0))).1, (adStep (psR i).2 ((psR i).1.getD (pickOf (goP (psR i).1) (picksK.getD i 0)) (0, 0))).2) := by decide
theorem psR_end : goP (psR 6).1 = [] ∧ (psR 6).1 = [(3, 0), (3, 1), (3, 2), (3, 2)] ∧ (psR 6).2 = 3 ∧ (psR 0) = psA 2 0 := by decide
theorem getD_eq {α : Type} {l : List α} {n : Nat} {d : α} (h : n < l.length) : l.getD n d = l[n] := by simp [List.getD_eq_getElem?_getD, h]
set_option maxRecDepth 4000
attribute [local irreducible] SOps SC SOp SV SF SR DR SQ
section
variable {mb n c lb pm tb dm : Nat} {m : MS} {bs : List Nat} {ps : List (Nat × Nat)} {Γ : List HP}
theorem kStep' (h : Rep m.ts bs ps) (hn : n < ps.length) (h16 : ps.length ≤ 16) (h3 : (ps.getD n (0, 0)).1 < 3) (hw : (ps.getD n (0, 0)).2 < 1000) :
    SF PP 22 [pv mb, i64v n] (kG mb m bs lb pm tb dm c Γ) (okp fun v Γ' => v = i64v 0 ∧ ∃ ts', Rep ts' bs (ps.set n (adStep c (ps.getD n (0, 0))).1) ∧ Γ' = kG mb { m with ts := ts' } bs lb pm tb dm (adStep c (ps.getD n (0, 0))).2 Γ) := by
  rw [getD_eq hn] at h3 hw ⊢
  exact kStep h hn h16 h3 hw
theorem kPick {p : Int} (h : Rep m.ts bs ps) (hp : p < 9223372036854775808) (h16 : ps.length ≤ 16) (hg : goP ps ≠ []) (hn : pickOf (goP ps) p < ps.length) (h3 : (ps.getD (pickOf (goP ps) p) (0, 0)).1 < 3) (hw : (ps.getD (pickOf (goP ps) p) (0, 0)).2 < 1000) :
    SF PP 37 [pv mb, i64v p] (kG mb m bs lb pm tb dm c Γ) (okp fun v Γ' => v = .tuple #[i64v (pickOf (goP ps) p), .bool true] ∧ ∃ ts', Rep ts' bs (ps.set (pickOf (goP ps) p) (adStep c (ps.getD (pickOf (goP ps) p) (0, 0))).1) ∧
      Γ' = kG mb { m with ts := ts' } bs lb pm tb dm (adStep c (ps.getD (pickOf (goP ps) p) (0, 0))).2 Γ) := by
  have e := goL_rep h
  rw [← e] at hg hn h3 hw ⊢
  refine mPick hp (by rw [h.lt]; exact h16) hg ?_
  refine SF.mono (kStep' h hn h16 h3 hw) ?_
  rintro e Γ' ⟨v, rfl, _, ts', h1, h2⟩
  exact ⟨v, rfl, ts', h1, h2⟩
theorem kRun {b : Nat} (h : Rep m.ts bs (psR 0).1) (hc : c = (psR 0).2) :
    SF PP 36 [pv mb, .slice (some ⟨b, 0, none⟩) 7 7] (pt b (.cells (picksK.map i64v).toArray 3 (0, 0)) :: kG mb m bs lb pm tb dm c Γ) (okp fun v Γ' => v = i64v 6 ∧ ∃ ts', Rep ts' bs (psR 6).1 ∧ Γ' = kG mb { m with ts := ts' } bs lb pm tb dm (psR 6).2 Γ) := by
  have hv : View [pt b (.cells (picksK.map i64v).toArray 3 (0, 0))] (some ⟨b, 0, none⟩) (picksK.map i64v) := View.pt
  have key := mRun (mb := mb) (Γ := kG mb m bs lb pm tb dm c Γ) (l := picksK) (a := some ⟨b, 0, none⟩) (c := 7) (F₀ := [pt b (.cells (picksK.map i64v).toArray 3 (0, 0))]) (hv := hv)
    (I := fun i Γ' => i ≤ 6 ∧ ∃ ts', Rep ts' bs (psR i).1 ∧ Γ' = kG mb { m with ts := ts' } bs lb pm tb dm (psR i).2 Γ)
    (F := fun i Γ' => i = 6 ∧ ∃ ts', Rep ts' bs (psR 6).1 ∧ Γ' = kG mb { m with ts := ts' } bs lb pm tb dm (psR 6).2 Γ)
    (by decide) ⟨by omega, m.ts, h, by rw [hc]⟩ ?_
  · refine SF.mono key ?_
    rintro e Γ' ⟨v, rfl, ⟨rfl, h6, _⟩ | ⟨i, hi, rfl, rfl, hF⟩⟩
    · exact absurd h6 (by decide)
    · exact ⟨_, rfl, rfl, hF⟩
  · rintro i hi Γ₁ ⟨h6, ts', hr, rfl⟩
    have hpk : picksK[i] = picksK.getD i 0 := (getD_eq hi).symm
    rcases Nat.lt_or_ge i 6 with hlt | hge
    · obtain ⟨q1, q2, q3, q4, q5, q6⟩ := psR_ok i hlt
      rw [hpk]
      refine SF.mono (kPick (m := { m with ts := ts' }) hr ?_ (by rw [q1]; omega) q3 (by rw [q1]; exact q2) q4 q5) ?_
      · have : ∀ i < 6, picksK.getD i 0 < 9223372036854775808 := by decide
        exact this i hlt
      · rintro e Γ' ⟨v, rfl, rfl, ts2, hr2, rfl⟩
        refine ⟨_, rfl, .inl ⟨_, rfl, by omega, ts2, by rw [q6]; exact hr2, by rw [q6]⟩⟩
    · obtain rfl : i = 6 := by omega
      refine SF.mono (mPickNone (m := { m with ts := ts' }) (by show ts'.length ≤ 16; rw [hr.lt]; decide) (by rw [goL_rep hr]; exact psR_end.1)) ?_
      rintro e Γ' ⟨rfl, rfl⟩
      exact ⟨_, rfl, .inr ⟨_, rfl, rfl, ts', hr, rfl⟩⟩
end
end Go.Proofs.Ytdganbddgobfdaa
