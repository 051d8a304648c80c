/- Deferred calls, and what is recovered. -/
import Derived.Test.YtdganbddgobfdaaSl13
import Derived.RecoverIn
namespace Go.Proofs.Ytdganbddgobfdaa

/-! a call that is deferred -/
def dpost (w : World) (R : List HP) (Q : Out → FrameMode → List HP → Prop) : Ending → FrameMode → World → Prop
  | .returned v, u, w' => Same w w' ∧ ∃ Γ', Q (.ok v) u Γ' ∧ sat w' (Γ' ++ R)
  | .panicked ch, u, w' => Same w w' ∧ ∃ Γ', Q (.panics ch) u Γ' ∧ sat w' (Γ' ++ R)
  | .outgrown, _, _ => False
/-- What a deferred call of a function does: to the blocks, and to the way of the frame below, which is u. -/
def SD (P : Program) (f : FuncId) (args : List Value) (u : FrameMode) (Γ : List HP) (Q : Out → FrameMode → List HP → Prop) : Prop :=
  Enters P f ∧ ∀ w R, sat w (Γ ++ R) → CallsDIn Fence.wide 0 P f args.toArray u w (dpost w R Q)
/-- Leaving on the way u, with the calls D still to be done. -/
def LV (P : Program) (rs : Array ResultVar) (n : Nat) (Q : Out → List HP → Prop) (T : Tm) : List Deferred → FrameMode → List HP → Prop
  | [], .returning, Γ => ∃ v, RetR P rs n T Γ v ∧ Q (.ok v) Γ
  | [], .panicking ch, Γ => Q (.panics ch) Γ
  | [], .run, _ => False
  | d :: ds, u, Γ => u ≠ .run ∧ ∃ f cap, d.target = .fn (.func f) cap ∧ SD P f (d.args ++ cap).toList u Γ fun e u' Γ' => match e with
    | .ok _ => LV P rs n Q T ds (settle u') Γ'
    | .panics ch => LV P rs n Q T ds (raised u' ch) Γ'
def kfunD (P : Program) (rs : Array ResultVar) (n : Nat) (Q : Out → List HP → Prop) : Exit → Tm → List Deferred → List HP → Prop
  | .normal, T, D, Γ | .ret, T, D, Γ => LV P rs n Q T D .returning Γ
  | .panic ch, T, D, Γ => LV P rs n Q T D (.panicking ch) Γ
  | _, _, _, _ => False
theorem LV_leaves {P : Program} {fn : Func} {Q : Out → List HP → Prop} {T : Tm} {a : Act} {w0 : World} {R : List HP} (hr : Rel fn.ntmps T a) : ∀ (D : List Deferred) (u : FrameMode) (w : World) (Γ : List HP), Same w0 w → sat w (Γ ++ R) →
    LV P fn.results fn.ntmps Q T D u Γ → LeavesIn Fence.wide 0 P fn a.tmps (fun
      | .returned v, w' => cpost w0 R Q (.ok v) w'
      | .panicked ch, w' => cpost w0 R Q (.panics ch) w'
      | .outgrown, _ => False) D u w := by
  intro D
  induction D with
  | nil =>
    intro u w Γ hs hsat h
    cases u with
    | run => exact h.elim
    | returning => obtain ⟨v, hv, hq⟩ := h; exact ⟨v, hv a w R hr hsat, hs, Γ, hq, hsat⟩
    | panicking ch => exact ⟨hs, Γ, h, hsat⟩
  | cons d ds ih =>
    intro u w Γ hs hsat h
    obtain ⟨hu, f, cap, ht, hsd⟩ := h
    refine ⟨hu, (fun hh => (by cases hh)), .func f, cap, f, d.args ++ cap, ht, ?_, fun _ _ => trivial, ?_⟩
    · rw [ht]; exact hsd.1 (d.args ++ cap) w
    · have := hsd.2 w R hsat
      rw [show (d.args ++ cap).toList.toArray = d.args ++ cap from rfl] at this
      refine CallsDIn.mono this ?_
      intro e u' w' he
      cases e with
      | returned v => obtain ⟨s, Γ', q, k⟩ := he; exact ih _ w' Γ' (hs.trans s) k q
      | panicked ch => obtain ⟨s, Γ', q, k⟩ := he; exact ih _ w' Γ' (hs.trans s) k q
      | outgrown => exact he
theorem SF_enterD {P : Program} {f : FuncId} {fn : Func} {n : Nat} {rs : Array ResultVar} [k : FN P f fn n rs] {c : Code} {args : List Value} {Γ : List HP} {Q : Out → List HP → Prop}
    (hb : fn.body = some c) (hlen : Nat.ble args.length n = true) (h : SC P none n c (numT 0 args) [] Γ (kfunD P rs n (wk Q))) : SF P f args Γ Q := by
  refine SF_wk ?_
  obtain rfl := k.hn; obtain rfl := k.hr
  refine ⟨k.he, fun w R hsat => callsIn_of_wp_defers k.hf hb trivial ?_ rfl⟩
  refine wpIn_mono (h _ w w R (Same.refl w) (Rel.enter (Nat.le_of_ble_eq_true hlen)) rfl hsat) ?_
  rintro e a' w' ⟨hs, T', Γ', hk, hr, hsat'⟩
  cases e with
  | normal => exact LV_leaves hr _ _ _ _ hs hsat' hk
  | ret => exact LV_leaves hr _ _ _ _ hs hsat' hk
  | panic ch => exact LV_leaves hr _ _ _ _ hs hsat' hk
  | exit id => exact hk.elim
  | goto l => exact hk.elim
  | outgrown => exact hk.elim
abbrev defD (f : FuncId) (first cap : Array Value) (args : List Value) : Deferred := { target := .fn (.func f) cap, args := first ++ args.toArray }
section
variable {P : Program} {n : Nat} {ops : Array Oper} {T : Tm} {D : List Deferred} {Γ : List HP} {K : Exit → Tm → List Deferred → List HP → Prop}
theorem SOps_defer {i : Nat} {l : List Nat} {o : Oper} {c : Call} {fx : Operand} {f : FuncId} {first cap : Array Value} {args : List Value} (ho : nthO ops.toList i = some o) (hw : wantT ops T o = some true) (hd : o.dst = none)
    (ho' : o.op = .defer c) (hc : c.callee = .value fx) (hf : evT T fx = some (.func (.func f) first cap)) (ha : argsT T c.args.toList = some args)
    (h : SOps P none n ops l T (defD f first cap args :: D) Γ K) : SOps P none n ops (i :: l) T D Γ K := by
  intro a w0 w R hs hr hdf hsat
  simp only [wpOpsIn, nthO_ops ho, wantT_sound hr hw, if_true, Oper.wpIn]
  refine ⟨fun f _ => FW_fn none f, ?_⟩
  have e : c.args.map a.eval = args.toArray := Array.toList_inj.1 (by rw [Array.toList_map]; exact hr.args ha)
  have hrun : (o.semAt (FW none).round a.eval).run P w = .ok (.defer (defD f first cap args)) w := by
    rw [show (FW none).round = none from rfl, Oper.semAt_none]
    simp only [execOp, ho', resolve, hc, hr.eval hf, e, Deferred.ofValue]
    rfl
  rw [hrun]
  show wpOpsIn _ _ _ _ _ _ _ _
  rw [hd]
  exact h _ _ _ _ hs ⟨hr.size, hr.val⟩ (by simp [Act.put, hdf]) hsat
/-- A call of a value; what is known of the temporaries stays known where it panics. -/
theorem SOps_callVT {r : Option Nat} {i dd : Nat} {l : List Nat} {o : Oper} {c : Call} {fx : Operand} {fv : Value} {args : List Value} {Q : Out → List HP → Prop} (ho : nthO ops.toList i = some o)
    (hw : wantT ops T o = some true) (hd : o.dst = some dd) (hlt : Nat.blt dd n = true) (ho' : o.op = .call c) (hc : c.callee = .value fx) (hf : evT T fx = some fv) (ha : argsT T c.args.toList = some args)
    (h : SV P fv args Γ Q) (hv : ∀ v Γ', Q (.ok v) Γ' → SOps P r n ops l ((dd, v) :: T) D Γ' K) (hp : ∀ ch Γ', Q (.panics ch) Γ' → K (.panic ch) T D Γ') :
    SOps P r n ops (i :: l) T D Γ K := by
  have hop : SOp P o T Γ Q := SOp_call ho' hc hf ha h
  intro a w0 w R hs hr hdf hsat
  simp only [wpOpsIn, nthO_ops ho, wantT_sound hr hw, if_true, Oper.wpIn]
  refine ⟨fun f _ => FW_fn r f, ?_⟩
  rw [Oper.semAt_eq _ _ _ hop.1]
  refine upon_of_next (C := cpost w R Q) ?_ ?_ _ (hop.2 n a w R hr hsat)
  · rintro v w' ⟨hs', Γ', q, hsat'⟩
    rw [hd]
    exact hv v Γ' q _ _ _ _ (hs.trans hs') (hr.put (d := some dd) hlt v) hdf hsat'
  · rintro ch w' ⟨hs', Γ', q, hsat'⟩
    exact ⟨hs.trans hs', T, Γ', hdf ▸ hp ch Γ' q, hr, hsat'⟩
end

/-! the body of a deferred call -/
def postS (K : Exit → Tm → List Deferred → FrameMode → List HP → Prop) (n : Nat) (w : World) (R : List HP) (c₀ : Frame) (cs : List Frame) : Exit → Act → List Frame → World → Prop :=
  fun e a' cs' w' => Same w w' ∧ ∃ u' T' Γ', cs' = { c₀ with mode := u' } :: cs ∧ K e T' a'.defers u' Γ' ∧ Rel n T' a' ∧ sat w' (Γ' ++ R)
def SCS (P : Program) (n : Nat) (c : Code) (T : Tm) (D : List Deferred) (u : FrameMode) (Γ : List HP) (K : Exit → Tm → List Deferred → FrameMode → List HP → Prop) : Prop :=
  ∀ a w0 w R c₀ cs, Same w0 w → Rel n T a → a.defers = D → sat w (Γ ++ R) → c.wpSIn Fence.wide 0 P (postS K n w0 R c₀ cs) a ({ c₀ with mode := u } :: cs) w
def SOpsS (P : Program) (n : Nat) (ops : Array Oper) (l : List Nat) (T : Tm) (D : List Deferred) (u : FrameMode) (Γ : List HP) (K : Exit → Tm → List Deferred → FrameMode → List HP → Prop) : Prop :=
  ∀ a w0 w R c₀ cs, Same w0 w → Rel n T a → a.defers = D → sat w (Γ ++ R) → wpOpsSIn Fence.wide 0 P ops (postS K n w0 R c₀ cs) l a ({ c₀ with mode := u } :: cs) w
theorem wpSIn_mono {F : Fence} {n : Nat} {P : Program} {c : Code} {Q Q' : Exit → Act → List Frame → World → Prop} {a : Act} {cs : List Frame} {w : World} (h : c.wpSIn F n P Q a cs w) (hq : ∀ e a cs w, Q e a cs w → Q' e a cs w) : c.wpSIn F n P Q' a cs w :=
  fun b k h1 h2 h3 h4 => let ⟨e, a', cs', w', l, q, r⟩ := h b k h1 h2 h3 h4; ⟨e, a', cs', w', l, hq _ _ _ _ q, r⟩
def kthenS (P : Program) (n : Nat) (y : Code) (K : Exit → Tm → List Deferred → FrameMode → List HP → Prop) : Exit → Tm → List Deferred → FrameMode → List HP → Prop
  | .normal, T, D, u, Γ => SCS P n y T D u Γ K
  | e, T, D, u, Γ => K e T D u Γ
def kfunS (P : Program) (rs : Array ResultVar) (n : Nat) (Q : Out → FrameMode → List HP → Prop) : Exit → Tm → List Deferred → FrameMode → List HP → Prop
  | .normal, T, D, u, Γ | .ret, T, D, u, Γ => D = [] ∧ ∃ v, RetR P rs n T Γ v ∧ Q (.ok v) u Γ
  | .panic ch, _, D, u, Γ => D = [] ∧ Q (.panics ch) u Γ
  | _, _, _, _, _ => False
/-- What recover hands back, and the way that the frame below is on behind it. -/
def recD : FrameMode → Value × FrameMode
  | .panicking ({ v, recovered := false, goexit := false } :: older) => (v, .panicking ({ v, recovered := true } :: older))
  | u => (.nilIface, u)
section
variable {P : Program} {n : Nat} {ops : Array Oper} {T : Tm} {D : List Deferred} {u : FrameMode} {Γ : List HP} {K : Exit → Tm → List Deferred → FrameMode → List HP → Prop}
theorem SCS_lift {c : Code} (h : SC P none n c T D Γ fun e T' D' Γ' => K e T' D' u Γ') : SCS P n c T D u Γ K := by
  intro a w0 w R c₀ cs hs hr hd hsat
  refine wpSIn_of_wpIn rfl (wpIn_mono (h a w0 w R hs hr hd hsat) ?_)
  rintro e a' w' ⟨hs', T', Γ', k, hr', hsat'⟩
  exact ⟨hs', u, T', Γ', rfl, k, hr', hsat'⟩
theorem SCS_seq {x y : Code} (h : SCS P n x T D u Γ (kthenS P n y K)) : SCS P n (.seq x y) T D u Γ K := by
  intro a w0 w R c₀ cs hs hr hd hsat
  refine wpSIn_seq (wpSIn_mono (h a w0 w R c₀ cs hs hr hd hsat) ?_)
  rintro e a' cs' w' ⟨hs', u', T', Γ', hc, k, hr', hsat'⟩
  cases e with
  | normal => subst hc; exact k a' w0 w' R c₀ cs hs' hr' rfl hsat'
  | _ => exact ⟨hs', u', T', Γ', hc, k, hr', hsat'⟩
theorem SCS_cond {c : Operand} {x y : Code} {b : Bool} (hc : evT T c = some (.bool b)) (ht : b = true → SCS P n x T D u Γ K) (hf : b = false → SCS P n y T D u Γ K) : SCS P n (.cond c x y) T D u Γ K := by
  intro a w0 w R c₀ cs hs hr hd hsat
  refine wpSIn_cond (hr.eval hc) ?_
  cases b with
  | true => exact ht rfl a w0 w R c₀ cs hs hr hd hsat
  | false => exact hf rfl a w0 w R c₀ cs hs hr hd hsat
theorem SCS_region {id m : Nat} (hm : ops.size = m) (h : SOpsS P n ops (List.range m) T D u Γ K) : SCS P n (.region id ops false) T D u Γ K := by
  subst hm
  exact fun a w0 w R c₀ cs hs hr hd hsat => wpSIn_region (h a w0 w R c₀ cs hs hr hd hsat)
theorem SOpsS_nil (h : K .normal T D u Γ) : SOpsS P n ops [] T D u Γ K :=
  fun _ _ _ _ _ _ hs hr hd hw => ⟨hs, u, T, Γ, rfl, hd ▸ h, hr, hw⟩
theorem SOpsS_q {i dd : Nat} {l : List Nat} {o : Oper} {v : Value} (ho : nthO ops.toList i = some o) (hw : wantT ops T o = some true) (hd : o.dst = some dd) (hlt : Nat.blt dd n = true)
    (hq : SQ P o T Γ v) (h : SOpsS P n ops l ((dd, v) :: T) D u Γ K) : SOpsS P n ops (i :: l) T D u Γ K := by
  intro a w0 w R c₀ cs hs hr hdf hsat
  simp only [wpOpsSIn, nthO_ops ho, wantT_sound hr hw, if_true]
  refine ⟨fun _ _ => trivial, ?_⟩
  rw [hq.2 n a w R hr hsat]
  simp only [hd]
  exact h _ _ _ _ c₀ cs hs (hr.put (d := some dd) hlt v) hdf hsat
theorem SOpsS_pure {i dd : Nat} {l : List Nat} {o : Oper} {v : Value} (ho : nthO ops.toList i = some o) (hw : wantT ops T o = some true) (hd : o.dst = some dd) (hlt : Nat.blt dd n = true)
    (hq : pureVal T o = some v) (h : SOpsS P n ops l ((dd, v) :: T) D u Γ K) : SOpsS P n ops (i :: l) T D u Γ K := SOpsS_q ho hw hd hlt (SQ_pure hq) h
theorem SOpsS_recover {i dd : Nat} {l : List Nat} {o : Oper} {at' : Array TypeId} (ho : nthO ops.toList i = some o) (hw : wantT ops T o = some true) (hd : o.dst = some dd) (hlt : Nat.blt dd n = true)
    (ho' : o.op = .call { callee := .builtin .recover, args := #[], argTypes := at' }) (h : SOpsS P n ops l ((dd, (recD u).1) :: T) D (recD u).2 Γ K) : SOpsS P n ops (i :: l) T D u Γ K := by
  intro a w0 w R c₀ cs hs hr hdf hsat
  simp only [wpOpsSIn, nthO_ops ho, wantT_sound hr hw, if_true]
  refine ⟨fun _ _ => trivial, ?_⟩
  have hrun : (execOp a.eval o).run P w = .ok .recover w := by
    simp only [execOp, ho', resolve, invoke, builtin]; rfl
  rw [hrun]
  simp only [hd]
  have h' := h (a.put (some dd) (recD u).1) w0 w R c₀ cs hs (hr.put (d := some dd) hlt _) hdf hsat
  unfold recoverD
  unfold recD at h'
  split
  · rename_i v cs' heq
    simp only at heq
    split at heq
    · rename_i v2 older
      cases heq
      exact h'
    · cases heq
  · rename_i heq
    simp only at heq
    split at heq
    · cases heq
    · rename_i hno
      split at h'
      · rename_i v2 older
        exact absurd rfl (hno v2 older)
      · exact h'
end
theorem SD_enter {P : Program} {f : FuncId} {fn : Func} {n : Nat} {rs : Array ResultVar} [k : FN P f fn n rs] {c : Code} {args : List Value} {u : FrameMode} {Γ : List HP} {Q : Out → FrameMode → List HP → Prop}
    (hb : fn.body = some c) (hlen : Nat.ble args.length n = true) (h : SCS P n c (numT 0 args) [] u Γ (kfunS P rs n Q)) : SD P f args u Γ Q := by
  obtain rfl := k.hn; obtain rfl := k.hr
  refine ⟨k.he, fun w R hsat => callsDIn_of_wpSIn k.hf hb trivial ?_⟩
  intro c₀ cs hu
  have hc : ({ c₀ with mode := u } : Frame) = c₀ := by subst hu; rfl
  have h1 := h _ w w R c₀ cs (Same.refl w) (Rel.enter (Nat.le_of_ble_eq_true hlen)) rfl hsat
  rw [hc] at h1
  refine wpSIn_mono h1 ?_
  rintro e a' cs' w' ⟨hs, u', T', Γ', hcs, hk, hr, hsat'⟩
  cases e with
  | normal =>
    obtain ⟨hd, v, hv, hq⟩ := hk
    exact ⟨hd, u', hcs, v, hv a' w' R hr hsat', hs, Γ', hq, hsat'⟩
  | ret =>
    obtain ⟨hd, v, hv, hq⟩ := hk
    exact ⟨hd, u', hcs, v, hv a' w' R hr hsat', hs, Γ', hq, hsat'⟩
  | panic ch =>
    obtain ⟨hd, hq⟩ := hk
    exact ⟨hd, u', hcs, hs, Γ', hq, hsat'⟩
  | exit id => exact hk.elim
  | goto l => exact hk.elim
  | outgrown => exact hk.elim
end Go.Proofs.Ytdganbddgobfdaa
