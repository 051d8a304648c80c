/- Functions entered, left, called. -/
import Derived.Test.YtdganbddgobfdaaSl4
namespace Go.Proofs.Ytdganbddgobfdaa

def resultsA (rs : Array ResultVar) (tmps : Array Value) : Sem Value := do
  let vs ← rs.mapM fun
    | .tmp t => pure (tmps.getD t undef)
    | .cell a t => do loadVar t (← asAddr (tmps.getD a undef))
  pure (if h : vs.size = 1 then vs[0] else .tuple vs)
def RetR (P : Program) (rs : Array ResultVar) (n : Nat) (T : Tm) (Γ : List HP) (v : Value) : Prop :=
  ∀ a w R, Rel n T a → sat w (Γ ++ R) → (resultsA rs a.tmps).run P w = .ok v w
def kfun (P : Program) (rs : Array ResultVar) (n : Nat) (Q : Out → List HP → Prop) : Exit → Tm → List Deferred → List HP → Prop
  | .normal, T, D, Γ | .ret, T, D, Γ => D = [] ∧ ∃ v, RetR P rs n T Γ v ∧ Q (.ok v) Γ
  | .panic ch, _, D, Γ => D = [] ∧ Q (.panics ch) Γ
  | _, _, _, _ => False

theorem SF_enter {P : Program} {f : FuncId} {fn : Func} {n : Nat} {rs : Array ResultVar} [k : FN P f fn n rs] {c : Code} {args : List Value} {Γ : List HP} {Q : Out → List HP → Prop}
    (hb : fn.body = some c) (hlen : Nat.ble args.length n = true) (h : SC P none n c (numT 0 args) [] Γ (kfun P rs n Q)) : SF P f args Γ Q := by
  obtain rfl := k.hn; obtain rfl := k.hr
  refine SF_of k.hf hb k.he (Nat.le_of_ble_eq_true hlen) (SC_mono h ?_)
  rintro e T D Γ' hk
  cases e with
  | normal => exact hk
  | ret => exact hk
  | panic ch => exact hk
  | _ => exact hk.elim

section
variable {P : Program} {n : Nat} {T : Tm} {Γ : List HP} {Q : Out → List HP → Prop}
theorem Rel.get {n : Nat} {T : Tm} {a : Act} (h : Rel n T a) {t : Nat} {v : Value} (e : tget T t = some v) : a.tmps[t]?.getD undef = v := by
  rw [← Array.getD_eq_getD_getElem?]; exact h.val t v e
theorem retR0 : RetR P #[] n T Γ (.tuple #[]) := fun a w R _ _ => by simp [resultsA]
theorem retR1 {t : Nat} {v : Value} (h : tget T t = some v) : RetR P #[.tmp t] n T Γ v := fun a w R hr _ => by
  simp [resultsA, hr.get h]
theorem retR2 {t u : Nat} {v x : Value} (h : tget T t = some v) (h' : tget T u = some x) : RetR P #[.tmp t, .tmp u] n T Γ (.tuple #[v, x]) := fun a w R hr _ => by
  simp [resultsA, hr.get h, hr.get h']
theorem retR3 {t u s : Nat} {v x y : Value} (h : tget T t = some v) (h' : tget T u = some x) (h2 : tget T s = some y) : RetR P #[.tmp t, .tmp u, .tmp s] n T Γ (.tuple #[v, x, y]) := fun a w R hr _ => by
  simp [resultsA, hr.get h, hr.get h', hr.get h2]
theorem ret0 (hq : Q (.ok (.tuple #[])) Γ) : kfun P #[] n Q .ret T [] Γ := ⟨rfl, _, retR0, hq⟩
theorem ret1 {t : Nat} {v : Value} (h : tget T t = some v) (hq : Q (.ok v) Γ) : kfun P #[.tmp t] n Q .ret T [] Γ := ⟨rfl, _, retR1 h, hq⟩
theorem ret2 {t u : Nat} {v x : Value} (h : tget T t = some v) (h' : tget T u = some x) (hq : Q (.ok (.tuple #[v, x])) Γ) : kfun P #[.tmp t, .tmp u] n Q .ret T [] Γ := ⟨rfl, _, retR2 h h', hq⟩
theorem ret3 {t u s : Nat} {v x y : Value} (h : tget T t = some v) (h' : tget T u = some x) (h2 : tget T s = some y) (hq : Q (.ok (.tuple #[v, x, y])) Γ) : kfun P #[.tmp t, .tmp u, .tmp s] n Q .ret T [] Γ :=
  ⟨rfl, _, retR3 h h' h2, hq⟩
theorem end0 (hq : Q (.ok (.tuple #[])) Γ) : kfun P #[] n Q .normal T [] Γ := ⟨rfl, _, retR0, hq⟩
end

class Pick (Γ : List HP) (A : HP) (Γ' : outParam (List HP)) : Prop where
  p : Γ.Perm (A :: Γ')
instance Pick.here {A : HP} {Γ : List HP} : Pick (A :: Γ) A Γ := ⟨List.Perm.refl _⟩
instance (priority := low) Pick.later {A B : HP} {Γ Γ' : List HP} [k : Pick Γ A Γ'] : Pick (B :: Γ) A (B :: Γ') := ⟨(List.Perm.cons B k.p).trans (List.Perm.swap A B Γ')⟩
class Takes (Γ Δ : List HP) (F : outParam (List HP)) : Prop where
  p : Γ.Perm (Δ ++ F)
instance Takes.nil {Γ : List HP} : Takes Γ [] Γ := ⟨List.Perm.refl _⟩
instance Takes.cons {Γ Γ' Δ F : List HP} {A : HP} [k : Pick Γ A Γ'] [k' : Takes Γ' Δ F] : Takes Γ (A :: Δ) F := ⟨k.p.trans (List.Perm.cons A k'.p)⟩

section
variable {P : Program} {r : Option Nat} {n : Nat} {ops : Array Oper} {T : Tm} {D : List Deferred} {Γ : List HP} {K : Exit → Tm → List Deferred → List HP → Prop}
/-- A call of a function value that is given by what it does. -/
theorem SOps_callV {i dd : Nat} {l : List Nat} {o : Oper} {c : Call} {fx : Operand} {fv : Value} {args : List Value} {Δ F : List HP} {Q : Out → List HP → Prop} (ho : nthO ops.toList i = some o)
    (hw : wantT ops T o = some true) (hd : o.dst = some dd) (hlt : Nat.blt dd n = true) (ho' : o.op = .call c) (hc : c.callee = .value fx) (hf : evT T fx = some fv) (ha : argsT T c.args.toList = some args)
    (h : SV P fv args Δ Q) [k : Takes Γ Δ F] (hv : ∀ v Δ', Q (.ok v) Δ' → SOps P r n ops l ((dd, v) :: T) D (Δ' ++ F) K) (hp : ∀ ch Δ', Q (.panics ch) Δ' → K (.panic ch) [] D (Δ' ++ F)) :
    SOps P r n ops (i :: l) T D Γ K :=
  SOps_opD ho hw hd hlt (SOp_call ho' hc hf ha (SV.frame h k.p)) (fun v _ ⟨Δ', q, e⟩ => by cases e; exact hv v Δ' q) (fun ch _ ⟨Δ', q, e⟩ => by cases e; exact hp ch Δ' q)
/-- A call of a function of the program, or of a closure over one. -/
theorem SOps_call {i dd : Nat} {l : List Nat} {o : Oper} {c : Call} {fx : Operand} {f : FuncId} {first cap : Array Value} {args all : List Value} {Δ F : List HP} {Q : Out → List HP → Prop}
    (ho : nthO ops.toList i = some o) (hw : wantT ops T o = some true) (hd : o.dst = some dd) (hlt : Nat.blt dd n = true) (ho' : o.op = .call c) (hc : c.callee = .value fx)
    (hf : evT T fx = some (.func (.func f) first cap)) (ha : argsT T c.args.toList = some args) (hl : first.toList ++ args ++ cap.toList = all)
    (h : SF P f all Δ Q) [k : Takes Γ Δ F] (hv : ∀ v Δ', Q (.ok v) Δ' → SOps P r n ops l ((dd, v) :: T) D (Δ' ++ F) K)
    (hp : ∀ ch Δ', Q (.panics ch) Δ' → K (.panic ch) [] D (Δ' ++ F)) : SOps P r n ops (i :: l) T D Γ K :=
  SOps_callV ho hw hd hlt ho' hc hf ha (SV_fn hl h) hv hp
/-- The same, where it is known what is handed back. -/
theorem SOps_callD {i dd : Nat} {l : List Nat} {o : Oper} {c : Call} {fx : Operand} {f : FuncId} {first cap : Array Value} {args all : List Value} {Δ Δ' F : List HP} {v : Value}
    (ho : nthO ops.toList i = some o) (hw : wantT ops T o = some true) (hd : o.dst = some dd) (hlt : Nat.blt dd n = true) (ho' : o.op = .call c) (hc : c.callee = .value fx)
    (hf : evT T fx = some (.func (.func f) first cap)) (ha : argsT T c.args.toList = some args) (hl : first.toList ++ args ++ cap.toList = all)
    (h : SF P f all Δ (det v Δ')) [k : Takes Γ Δ F] (hv : SOps P r n ops l ((dd, v) :: T) D (Δ' ++ F) K) : SOps P r n ops (i :: l) T D Γ K :=
  SOps_call ho hw hd hlt ho' hc hf ha hl h (fun _ _ ⟨e, g⟩ => by cases e; cases g; exact hv) (fun _ _ ⟨e, _⟩ => by cases e)
/-- The whole list is handed over. -/
theorem SOps_callW {i dd : Nat} {l : List Nat} {o : Oper} {c : Call} {fx : Operand} {f : FuncId} {first cap : Array Value} {args all : List Value} {Q : Out → List HP → Prop}
    (ho : nthO ops.toList i = some o) (hw : wantT ops T o = some true) (hd : o.dst = some dd) (hlt : Nat.blt dd n = true) (ho' : o.op = .call c) (hc : c.callee = .value fx)
    (hf : evT T fx = some (.func (.func f) first cap)) (ha : argsT T c.args.toList = some args) (hl : first.toList ++ args ++ cap.toList = all)
    (h : SF P f all Γ Q) (hv : ∀ v Γ', Q (.ok v) Γ' → SOps P r n ops l ((dd, v) :: T) D Γ' K)
    (hp : ∀ ch Γ', Q (.panics ch) Γ' → K (.panic ch) [] D Γ') : SOps P r n ops (i :: l) T D Γ K :=
  SOps_opD ho hw hd hlt (SOp_call ho' hc hf ha (SV_fn hl h)) hv hp
theorem SOps_callWD {i dd : Nat} {l : List Nat} {o : Oper} {c : Call} {fx : Operand} {f : FuncId} {first cap : Array Value} {args all : List Value} {v : Value} {Γ' : List HP}
    (ho : nthO ops.toList i = some o) (hw : wantT ops T o = some true) (hd : o.dst = some dd) (hlt : Nat.blt dd n = true) (ho' : o.op = .call c) (hc : c.callee = .value fx)
    (hf : evT T fx = some (.func (.func f) first cap)) (ha : argsT T c.args.toList = some args) (hl : first.toList ++ args ++ cap.toList = all)
    (h : SF P f all Γ (det v Γ')) (hv : SOps P r n ops l ((dd, v) :: T) D Γ' K) : SOps P r n ops (i :: l) T D Γ K :=
  SOps_callW ho hw hd hlt ho' hc hf ha hl h (fun _ _ ⟨e, g⟩ => by cases e; cases g; exact hv) (fun _ _ ⟨e, _⟩ => by cases e)
/-- A value that is called, given by what it does; the whole list. -/
theorem SOps_callVW {i dd : Nat} {l : List Nat} {o : Oper} {c : Call} {fx : Operand} {fv : Value} {args : List Value} {Q : Out → List HP → Prop} (ho : nthO ops.toList i = some o)
    (hw : wantT ops T o = some true) (hd : o.dst = some dd) (hlt : Nat.blt dd n = true) (ho' : o.op = .call c) (hc : c.callee = .value fx) (hf : evT T fx = some fv) (ha : argsT T c.args.toList = some args)
    (h : SV P fv args Γ Q) (hv : ∀ v Γ', Q (.ok v) Γ' → SOps P r n ops l ((dd, v) :: T) D Γ' K) (hp : ∀ ch Γ', Q (.panics ch) Γ' → K (.panic ch) [] D Γ') :
    SOps P r n ops (i :: l) T D Γ K :=
  SOps_opD ho hw hd hlt (SOp_call ho' hc hf ha h) hv hp
end
end Go.Proofs.Ytdganbddgobfdaa
