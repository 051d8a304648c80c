/- Small rules: blocks dropped, turned round; ways that meet again; endings in other words. -/
import Derived.Test.YtdganbddgobfdaaSl14
namespace Go.Proofs.Ytdganbddgobfdaa
theorem SOps_dropR {P : Program} {r : Option Nat} {n : Nat} {ops : Array Oper} {T : Tm} {D : List Deferred} {K : Exit → Tm → List Deferred → List HP → Prop} {l : List Nat} {A F : List HP} (h : SOps P r n ops l T D A K) : SOps P r n ops l T D (A ++ F) K :=
  SOps_weak (fun _ _ s => sat_take (Γ := A ++ F) (Δ := A) (F := F) (List.Perm.refl _) s) h
theorem SOps_front {P : Program} {r : Option Nat} {n : Nat} {ops : Array Oper} {T : Tm} {D : List Deferred} {K : Exit → Tm → List Deferred → List HP → Prop} {l : List Nat} {A F : List HP} (h : SOps P r n ops l T D (F ++ A) K) : SOps P r n ops l T D (A ++ F) K :=
  SOps_weak (fun _ R s => sat_perm (List.Perm.append_right R List.perm_append_comm) s) h
theorem SF.conv {P : Program} {f : FuncId} {args : List Value} {Γ : List HP} {Q Q' : Out → List HP → Prop} (h : SF P f args Γ Q) (hq : ∀ e Γ', Q e Γ' → ∃ Δ, (∀ w R, sat w (Γ' ++ R) → sat w (Δ ++ R)) ∧ Q' e Δ) : SF P f args Γ Q' :=
  ⟨h.1, fun w R s => CallsIn.mono (h.2 w R s) fun e w' he => by
    cases e with
    | returned v => obtain ⟨s, Γ', q, k⟩ := he; obtain ⟨Δ, p, q'⟩ := hq _ _ q; exact ⟨s, Δ, q', p _ _ k⟩
    | panicked ch => obtain ⟨s, Γ', q, k⟩ := he; obtain ⟨Δ, p, q'⟩ := hq _ _ q; exact ⟨s, Δ, q', p _ _ k⟩
    | outgrown => exact he⟩
/-- The frame, of a function. -/
theorem SF.frame {P : Program} {f : FuncId} {args : List Value} {Γ Δ F : List HP} {Q : Out → List HP → Prop} (h : SF P f args Δ Q) (p : Γ.Perm (Δ ++ F)) : SF P f args Γ fun e Γ' => ∃ Δ', Q e Δ' ∧ Γ' = Δ' ++ F :=
  ⟨h.1, fun w R s => by
    have h1 := sat_perm (List.Perm.append_right R p) s
    rw [List.append_assoc] at h1
    refine CallsIn.mono (h.2 w (F ++ R) h1) fun e w' he => ?_
    cases e with
    | returned v => obtain ⟨s, Δ', q, k⟩ := he; exact ⟨s, Δ' ++ F, ⟨Δ', q, rfl⟩, by rwa [List.append_assoc]⟩
    | panicked ch => obtain ⟨s, Δ', q, k⟩ := he; exact ⟨s, Δ' ++ F, ⟨Δ', q, rfl⟩, by rwa [List.append_assoc]⟩
    | outgrown => exact he⟩
theorem SV.wk {P : Program} {fv : Value} {args : List Value} {Γ : List HP} {Q Q' : Out → List HP → Prop} (h : SV P fv args Γ Q) (hq : ∀ e Γ', Q e Γ' → wk Q' e Γ') : SV P fv args Γ Q' :=
  fun w R s => nextP_mono (fun e w' ⟨s, Γ', q, k⟩ => by obtain ⟨Δ, F, p, q'⟩ := hq e Γ' q; exact ⟨s, Δ, q', sat_take p k⟩) _ (h w R s)
theorem take_p {Γ Δ F : List HP} [k : Takes Γ Δ F] : Γ.Perm (Δ ++ F) := k.p
theorem SC_join {P : Program} {r : Option Nat} {n : Nat} {T : Tm} {D : List Deferred} {Γ : List HP} {K : Exit → Tm → List Deferred → List HP → Prop} {c y : Code} (S : Tm) (Δ : List HP)
    (h1 : SC P r n c T D Γ fun e T' D' Γ' => e = .normal ∧ Sub S T' ∧ D' = D ∧ Γ' = Δ) (h2 : SC P r n y S D Δ K) : SC P r n c T D Γ (kthen P r n y K) :=
  SC_mono h1 (by rintro _ T' D' Γ' ⟨rfl, s, rfl, rfl⟩; exact SC_sub h2 s)
theorem SC_joinX {P : Program} {r : Option Nat} {n : Nat} {T : Tm} {D : List Deferred} {Γ : List HP} {K : Exit → Tm → List Deferred → List HP → Prop} {c y : Code} (id : Nat) (S : Tm) (Δ : List HP)
    (h1 : SC P r n c T D Γ fun e T' D' Γ' => e = .exit id ∧ Sub S T' ∧ D' = D ∧ Γ' = Δ) (h2 : SC P r n y S D Δ K) : SC P r n c T D Γ (kblock id (kthen P r n y K)) :=
  SC_mono h1 (by
    rintro _ T' D' Γ' ⟨rfl, s, rfl, rfl⟩
    show (match Nat.beq id id with
      | true => _
      | false => _)
    rw [show Nat.beq id id = true by simp]
    exact SC_sub h2 s)
end Go.Proofs.Ytdganbddgobfdaa
