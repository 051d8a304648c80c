/- What an operation, a call, a statement and a function do to the blocks that a list speaks of; and the rules. -/
import Derived.Test.YtdganbddgobfdaaSl1
import Derived.Test.YtdganbddgobfdaaCls
import Derived.Laws.Sem
namespace Go.Proofs.Ytdganbddgobfdaa

abbrev Tm := List (Nat × Value)
def tget : Tm → Nat → Option Value
  | [], _ => none
  | (s, v) :: T, t => match Nat.beq s t with
    | true => some v
    | false => tget T t
def evT (T : Tm) : Operand → Option Value
  | .tmp t => tget T t
  | .const v => some v
  | .global g => some (.pointer (some ⟨g, 0, none⟩))
  | .func f => some (.func (.func f) #[] #[])
def putT (T : Tm) : Option Tmp → Value → Tm
  | none, _ => T
  | some d, v => (d, v) :: T
def dok (n : Nat) : Option Tmp → Bool
  | none => true
  | some d => Nat.blt d n
def argsT (T : Tm) : List Operand → Option (List Value)
  | [] => some []
  | x :: l => match evT T x, argsT T l with
    | some v, some vs => some (v :: vs)
    | _, _ => none
def numT : Nat → List Value → Tm
  | _, [] => []
  | i, v :: l => (i, v) :: numT (i + 1) l

structure Rel (n : Nat) (T : Tm) (a : Act) : Prop where
  size : a.tmps.size = n
  val : ∀ t v, tget T t = some v → a.tmps.getD t undef = v

theorem Rel.eval {n : Nat} {T : Tm} {a : Act} (h : Rel n T a) {x : Operand} {v : Value} (e : evT T x = some v) : a.eval x = v := by
  cases x with
  | tmp t => exact h.val t v e
  | const c => exact Option.some.inj e
  | global g => exact Option.some.inj e
  | func f => exact Option.some.inj e
theorem Rel.put {n : Nat} {T : Tm} {a : Act} (h : Rel n T a) {d : Option Tmp} (hd : dok n d = true) (v : Value) : Rel n (putT T d v) (a.put d v) := by
  cases d with
  | none => exact h
  | some d =>
    have hlt : d < n := by simpa [dok] using hd
    refine ⟨by simp [Act.put, h.size], fun t u ht => ?_⟩
    simp only [putT, tget] at ht
    by_cases e : d = t
    · subst e
      have : Nat.beq d d = true := by simp
      rw [this] at ht
      cases ht
      simp [Act.put, h.size, hlt, Array.getD, Array.setIfInBounds]
    · have hb : Nat.beq d t = false := by
        cases hh : Nat.beq d t with
        | false => rfl
        | true => exact absurd (Nat.eq_of_beq_eq_true hh) e
      rw [hb] at ht
      have := h.val t u ht
      rw [← this]
      simp only [Act.put, Array.getD_eq_getD_getElem?, Array.getElem?_setIfInBounds]
      rw [if_neg e]
theorem Rel.nil {n : Nat} {a : Act} (h : a.tmps.size = n) : Rel n [] a := ⟨h, fun _ _ e => by cases e⟩
theorem Rel.args {n : Nat} {T : Tm} {a : Act} (h : Rel n T a) : ∀ {l : List Operand} {vs : List Value}, argsT T l = some vs → l.map a.eval = vs := by
  intro l
  induction l with
  | nil => intro vs e; cases e; rfl
  | cons x l ih =>
    intro vs e
    simp only [argsT] at e
    split at e
    · rename_i v vs' h1 h2
      cases e
      simp [h.eval h1, ih h2]
    · cases e
/-- T knows all that S knows. -/
def Sub (S T : Tm) : Prop := ∀ t v, tget S t = some v → tget T t = some v
theorem Rel.sub {n : Nat} {S T : Tm} {a : Act} (h : Rel n T a) (s : Sub S T) : Rel n S a := ⟨h.size, fun t v e => h.val t v (s t v e)⟩
theorem Sub.nil {T : Tm} : Sub [] T := fun _ _ e => by cases e
theorem Sub.refl {T : Tm} : Sub T T := fun _ _ e => e
theorem Sub.cons {S T : Tm} {t : Nat} {v : Value} (h : tget T t = some v) (s : Sub S T) : Sub ((t, v) :: S) T := by
  intro u x e
  simp only [tget] at e
  split at e
  · rename_i hb; cases Nat.eq_of_beq_eq_true hb; cases e; exact h
  · exact s u x e

structure Same (w w' : World) : Prop where
  tape : w'.tape = w.tape
  os : w'.os = w.os
  output : w'.output = w.output
  size : w.heap.size ≤ w'.heap.size
theorem Same.refl (w : World) : Same w w := ⟨rfl, rfl, rfl, Nat.le_refl _⟩
theorem Same.trans {a b c : World} (h : Same a b) (k : Same b c) : Same a c :=
  ⟨k.tape.trans h.tape, k.os.trans h.os, k.output.trans h.output, Nat.le_trans h.size k.size⟩

abbrev FW : Option Nat → Fence
  | none => Fence.wide
  | some l => Fence.wide.inRound l

inductive Out where
  | ok (v : Value)
  | panics (chain : List PanicEntry)

def cpost (w : World) (R : List HP) (Q : Out → List HP → Prop) : Out → World → Prop :=
  fun e w' => Same w w' ∧ ∃ Γ', Q e Γ' ∧ sat w' (Γ' ++ R)

/-- What becomes of an operation's answer. -/
def nextP (P : Program) (C : Out → World → Prop) : Result Next → Prop
  | .ok (.value v) w' => C (.ok v) w'
  | .ok .skip w' => C (.ok undef) w'
  | .ok (.enter f args) w' => CallsIn Fence.wide 0 P f args w' fun
      | .returned v, w'' => C (.ok v) w''
      | .panicked ch, w'' => C (.panics ch) w''
      | .outgrown, _ => False
  | .ok (.row row args) w' => RowsIn Fence.wide 0 P row args w' fun v w'' => C (.ok v) w''
  | .ok (.round l f tmps assign body) w' => RoundIn Fence.wide 0 P l f tmps assign body w' fun
      | .returned v, w'' => C (.ok v) w''
      | .panicked ch, w'' => C (.panics ch) w''
      | .outgrown, _ => False
  | .halt (.panic v) w' => C (.panics [{ v, recovered := false }]) w'
  | _ => False

theorem nextP_mono {P : Program} {C C' : Out → World → Prop} (hc : ∀ e w, C e w → C' e w) : ∀ r, nextP P C r → nextP P C' r
  | .ok (.value v) w', h => hc _ _ h
  | .ok .skip w', h => hc _ _ h
  | .ok (.enter f args) w', h => CallsIn.mono h fun e w'' he => by cases e <;> first | exact hc _ _ he | exact he
  | .ok (.row row args) w', h => RowsIn.mono h fun v w'' he => hc _ _ he
  | .ok (.round l f tmps assign body) w', h => RoundIn.mono h fun e w'' he => by cases e <;> first | exact hc _ _ he | exact he
  | .halt (.panic v) w', h => hc _ _ h
  | .ok (.defer _) _, h | .ok .recover _, h | .ok (.spawn _) _, h | .ok (.comm _ _ _) _, h | .ok .numGoroutine _, h | .ok .collect _, h | .ok (.watch _) _, h
  | .ok (.newcoro _ _) _, h | .ok (.coroswitch _ _) _, h | .ok (.sleep _) _, h | .ok (.timer _) _, h | .ok (.alone _ _) _, h | .ok (.callThen _ _ _ _) _, h | .ok (.stack _ _) _, h => h.elim
  | .halt .blocked _, h | .halt .waiting _, h | .halt (.exit _) _, h | .halt (.fatal _) _, h | .halt (.throw _) _, h | .halt .goexit _, h | .halt (.unsupported _) _, h | .halt (.stuck _) _, h => h.elim

def callSem (fv : Value) (args : Array Value) : Sem Next := do
  let d ← Deferred.ofValue fv args
  invoke d.target d.args

/-- Calling a function value. -/
def SV (P : Program) (fv : Value) (args : List Value) (Γ : List HP) (Q : Out → List HP → Prop) : Prop :=
  ∀ w R, sat w (Γ ++ R) → nextP P (cpost w R Q) ((callSem fv args.toArray).run P w)

/-- One operation, at what is known of the temporaries. -/
def SOp (P : Program) (o : Oper) (T : Tm) (Γ : List HP) (Q : Out → List HP → Prop) : Prop :=
  (∀ c, o.op ≠ .defer c) ∧ ∀ n a w R, Rel n T a → sat w (Γ ++ R) → nextP P (cpost w R Q) ((execOp a.eval o).run P w)

def post (K : Exit → Tm → List Deferred → List HP → Prop) (n : Nat) (w : World) (R : List HP) : Exit → Act → World → Prop :=
  fun e a' w' => Same w w' ∧ ∃ T' Γ', K e T' a'.defers Γ' ∧ Rel n T' a' ∧ sat w' (Γ' ++ R)

def SOps (P : Program) (r : Option Nat) (n : Nat) (ops : Array Oper) (l : List Nat) (T : Tm) (D : List Deferred) (Γ : List HP)
    (K : Exit → Tm → List Deferred → List HP → Prop) : Prop :=
  ∀ a w0 w R, Same w0 w → Rel n T a → a.defers = D → sat w (Γ ++ R) → wpOpsIn (FW r) 0 P ops (post K n w0 R) l a w

def SC (P : Program) (r : Option Nat) (n : Nat) (c : Code) (T : Tm) (D : List Deferred) (Γ : List HP)
    (K : Exit → Tm → List Deferred → List HP → Prop) : Prop :=
  ∀ a w0 w R, Same w0 w → Rel n T a → a.defers = D → sat w (Γ ++ R) → c.wpIn (FW r) 0 P (post K n w0 R) a w

theorem FW_fn (r : Option Nat) (f : FuncId) : (FW r).fn f := by cases r <;> trivial
theorem FW_depth (r : Option Nat) : (FW r).depth = none := by cases r <;> rfl
theorem FW_calls {r : Option Nat} {n : Nat} {P : Program} {f : FuncId} {args : Array Value} {w : World} {R : Ending → World → Prop}
    (h : CallsIn Fence.wide n P f args w R) : CallsIn (FW r) n P f args w R := by cases r <;> exact h
theorem FW_rows {r : Option Nat} {n : Nat} {P : Program} {row : String} {args : Array Value} {w : World} {R : Value → World → Prop}
    (h : RowsIn Fence.wide n P row args w R) : RowsIn (FW r) n P row args w R := by cases r <;> exact h
theorem FW_round {r : Option Nat} {n : Nat} {P : Program} {l : Nat} {f : FuncId} {tmps : Array Value} {x y : Code} {w : World} {R : Ending → World → Prop}
    (h : RoundIn Fence.wide n P l f tmps x y w R) : RoundIn (FW r) n P l f tmps x y w R := by cases r <;> exact h

/-- An operation's answer, inside a statement's walk. -/
theorem upon_of_next {P : Program} {r : Option Nat} {o : Oper} {a : Act} {next : Act → World → Prop} {Q : Exit → Act → World → Prop} {C : Out → World → Prop}
    (h1 : ∀ v w, C (.ok v) w → next (a.put o.dst v) w) (h2 : ∀ ch w, C (.panics ch) w → Q (.panic ch) a w) :
    ∀ res, nextP P C res → o.uponIn (FW r) 0 P a next Q res
  | .ok (.value v) w', h => h1 _ _ h
  | .ok .skip w', h => h1 _ _ h
  | .ok (.enter f args) w', h => ⟨fun hh => (by rw [FW_depth] at hh; cases hh), FW_calls (CallsIn.mono h fun e w'' he => by
      cases e with
      | returned v => exact h1 _ _ he
      | panicked ch => exact h2 _ _ he
      | outgrown => exact he.elim)⟩
  | .ok (.row row args) w', h => ⟨fun hh => (by rw [FW_depth] at hh; cases hh), FW_rows (RowsIn.mono h fun v w'' he => h1 _ _ he)⟩
  | .ok (.round l f tmps assign body) w', h => ⟨fun hh => (by rw [FW_depth] at hh; cases hh), FW_round (RoundIn.mono h fun e w'' he => by
      cases e with
      | returned v => exact h1 _ _ he
      | panicked ch => exact h2 _ _ he
      | outgrown => exact he.elim)⟩
  | .halt (.panic v) w', h => h2 _ _ h
  | .ok (.defer _) _, h | .ok .recover _, h | .ok (.spawn _) _, h | .ok (.comm _ _ _) _, h | .ok .numGoroutine _, h | .ok .collect _, h | .ok (.watch _) _, h
  | .ok (.newcoro _ _) _, h | .ok (.coroswitch _ _) _, h | .ok (.sleep _) _, h | .ok (.timer _) _, h | .ok (.alone _ _) _, h | .ok (.callThen _ _ _ _) _, h | .ok (.stack _ _) _, h => h.elim
  | .halt .blocked _, h | .halt .waiting _, h | .halt (.exit _) _, h | .halt (.fatal _) _, h | .halt (.throw _) _, h | .halt .goexit _, h | .halt (.unsupported _) _, h | .halt (.stuck _) _, h => h.elim

section
variable {P : Program} {r : Option Nat} {n : Nat} {ops : Array Oper} {T : Tm} {D : List Deferred} {Γ : List HP} {K : Exit → Tm → List Deferred → List HP → Prop}

/-- The i-th operation, found by plain steps. -/
def nthO : List Oper → Nat → Option Oper
  | [], _ => none
  | o :: _, 0 => some o
  | _ :: l, i + 1 => nthO l i
theorem nthO_eq : ∀ (l : List Oper) (i : Nat), nthO l i = l[i]?
  | [], _ => rfl
  | _ :: _, 0 => rfl
  | _ :: l, i + 1 => by simpa [nthO] using nthO_eq l i
theorem nthO_ops {i : Nat} {o : Oper} (h : nthO ops.toList i = some o) : ops[i]? = some o := by
  rw [nthO_eq] at h; simpa using h
theorem SOps_nil (h : K .normal T D Γ) : SOps P r n ops [] T D Γ K :=
  fun _ _ _ _ hs hr hd hw => ⟨hs, T, Γ, hd ▸ h, hr, hw⟩

/-- The guard of an operation, at what is known. -/
def wantT (ops : Array Oper) (T : Tm) (o : Oper) : Option Bool :=
  match o.guard with
  | none => some true
  | some (j, want) => match nthO ops.toList j with
    | none => none
    | some oj => match oj.dst with
    | none => none
    | some d => match tget T d with
      | some (.bool b) => some (b == want)
      | _ => none
theorem wantT_sound {a : Act} {o : Oper} {b : Bool} (hr : Rel n T a) (h : wantT ops T o = some b) : Region.wanted o (yielded ops a.tmps) = b := by
  unfold wantT at h
  unfold Region.wanted
  cases hg : o.guard with
  | none => rw [hg] at h; exact Option.some.inj h
  | some p =>
    obtain ⟨j, want⟩ := p
    rw [hg] at h
    simp only at h ⊢
    cases hj : nthO ops.toList j with
    | none => rw [hj] at h; cases h
    | some oj =>
      rw [hj] at h
      simp only at h
      cases hd : oj.dst with
      | none => rw [hd] at h; cases h
      | some d =>
        rw [hd] at h
        simp only at h
        cases ht : tget T d with
        | none => rw [ht] at h; cases h
        | some v =>
          rw [ht] at h
          have hv := hr.val d v ht
          cases v with
          | bool x =>
            simp only [Option.some.injEq] at h
            have : a.tmps[d]? = some (.bool x) := by
              rw [Array.getD_eq_getD_getElem?] at hv
              cases hh : a.tmps[d]? with
              | none => rw [hh] at hv; simp [undef] at hv
              | some y => rw [hh] at hv; simpa using hv
            have hdd : (ops[j]?).bind (·.dst) = some d := by rw [nthO_ops hj]; exact hd
            simp only [yielded, hdd, Option.bind_some, this]
            rw [← h]; cases x <;> cases want <;> rfl
          | _ => cases h

theorem SOps_skip {i : Nat} {l : List Nat} {o : Oper} (ho : nthO ops.toList i = some o) (hw : wantT ops T o = some false) (hd : dok n o.dst = true)
    (h : SOps P r n ops l (putT T o.dst undef) D Γ K) : SOps P r n ops (i :: l) T D Γ K := by
  intro a w0 w R hs hr hdf hsat
  simp only [wpOpsIn, nthO_ops ho, wantT_sound hr hw, Bool.false_eq_true, if_false]
  exact ⟨fun f _ => FW_fn r f, h _ _ _ _ hs (hr.put hd undef) (by cases o.dst <;> exact hdf) hsat⟩

theorem SOps_op {i : Nat} {l : List Nat} {o : Oper} {Q : Out → List HP → Prop} (ho : nthO ops.toList i = some o) (hw : wantT ops T o = some true) (hd : dok n o.dst = true)
    (hop : SOp P o T Γ Q) (hv : ∀ v Γ', Q (.ok v) Γ' → SOps P r n ops l (putT T o.dst v) D Γ' K) (hp : ∀ ch Γ', Q (.panics ch) Γ' → K (.panic ch) [] D Γ') :
    SOps P r n ops (i :: l) T D Γ K := by
  intro a w0 w R hs hr hdf hsat
  simp only [wpOpsIn, nthO_ops ho, wantT_sound hr hw, if_true, Oper.wpIn]
  refine ⟨fun f _ => FW_fn r f, ?_⟩
  rw [Oper.semAt_eq _ _ _ hop.1]
  refine upon_of_next (C := cpost w R Q) ?_ ?_ _ (hop.2 n a w R hr hsat)
  · rintro v w' ⟨hs', Γ', q, hsat'⟩
    exact hv v Γ' q _ _ _ _ (hs.trans hs') (hr.put hd v) (by cases o.dst <;> exact hdf) hsat'
  · rintro ch w' ⟨hs', Γ', q, hsat'⟩
    exact ⟨hs.trans hs', [], Γ', hdf ▸ hp ch Γ' q, Rel.nil hr.size, hsat'⟩

theorem SOps_opD {i d : Nat} {l : List Nat} {o : Oper} {Q : Out → List HP → Prop} (ho : nthO ops.toList i = some o) (hw : wantT ops T o = some true) (hd : o.dst = some d) (hlt : Nat.blt d n = true)
    (hop : SOp P o T Γ Q) (hv : ∀ v Γ', Q (.ok v) Γ' → SOps P r n ops l ((d, v) :: T) D Γ' K) (hp : ∀ ch Γ', Q (.panics ch) Γ' → K (.panic ch) [] D Γ') :
    SOps P r n ops (i :: l) T D Γ K :=
  SOps_op ho hw (by rw [hd]; exact hlt) hop (fun v Γ' q => by rw [hd]; exact hv v Γ' q) hp
theorem SOps_opN {i : Nat} {l : List Nat} {o : Oper} {Q : Out → List HP → Prop} (ho : nthO ops.toList i = some o) (hw : wantT ops T o = some true) (hd : o.dst = none)
    (hop : SOp P o T Γ Q) (hv : ∀ v Γ', Q (.ok v) Γ' → SOps P r n ops l T D Γ' K) (hp : ∀ ch Γ', Q (.panics ch) Γ' → K (.panic ch) [] D Γ') :
    SOps P r n ops (i :: l) T D Γ K :=
  SOps_op ho hw (by rw [hd]; rfl) hop (fun v Γ' q => by rw [hd]; exact hv v Γ' q) hp
theorem SOps_skipD {i d : Nat} {l : List Nat} {o : Oper} (ho : nthO ops.toList i = some o) (hw : wantT ops T o = some false) (hd : o.dst = some d) (hlt : Nat.blt d n = true)
    (h : SOps P r n ops l ((d, undef) :: T) D Γ K) : SOps P r n ops (i :: l) T D Γ K :=
  SOps_skip ho hw (by rw [hd]; exact hlt) (by rw [hd]; exact h)
theorem SOps_skipN {i : Nat} {l : List Nat} {o : Oper} (ho : nthO ops.toList i = some o) (hw : wantT ops T o = some false) (hd : o.dst = none)
    (h : SOps P r n ops l T D Γ K) : SOps P r n ops (i :: l) T D Γ K :=
  SOps_skip ho hw (by rw [hd]; rfl) (by rw [hd]; exact h)
/-- An operation that only reckons. -/
theorem SOps_val {i d : Nat} {l : List Nat} {o : Oper} {v : Value} (ho : nthO ops.toList i = some o) (hw : wantT ops T o = some true) (hd : o.dst = some d) (hlt : Nat.blt d n = true)
    (hop : SOp P o T Γ fun e Γ' => e = .ok v ∧ Γ' = Γ) (h : SOps P r n ops l ((d, v) :: T) D Γ K) : SOps P r n ops (i :: l) T D Γ K :=
  SOps_opD ho hw hd hlt hop (fun _ _ ⟨e, g⟩ => by cases e; cases g; exact h) (fun _ _ ⟨e, _⟩ => by cases e)

/-! statements -/
theorem SC_mono {c : Code} {K' : Exit → Tm → List Deferred → List HP → Prop} (h : SC P r n c T D Γ K) (hk : ∀ e T' D' Γ', K e T' D' Γ' → K' e T' D' Γ') : SC P r n c T D Γ K' :=
  fun a w0 w R hs hr hd hsat => wpIn_mono (h a w0 w R hs hr hd hsat) fun _ _ _ ⟨s, T', Γ', k, q⟩ => ⟨s, T', Γ', hk _ _ _ _ k, q⟩
theorem SC_sub {c : Code} {S : Tm} (h : SC P r n c S D Γ K) (s : Sub S T) : SC P r n c T D Γ K :=
  fun a w0 w R hs hr hd hsat => h a w0 w R hs (hr.sub s) hd hsat
theorem SC_perm {c : Code} {Δ : List HP} (p : Γ.Perm Δ) (h : SC P r n c T D Δ K) : SC P r n c T D Γ K :=
  fun a w0 w R hs hr hd hsat => h a w0 w R hs hr hd (sat_perm (List.Perm.append_right R p) hsat)
/-- What follows from the list alone. -/
theorem SC_weak {c : Code} {Δ : List HP} (p : ∀ w R, sat w (Γ ++ R) → sat w (Δ ++ R)) (h : SC P r n c T D Δ K) : SC P r n c T D Γ K :=
  fun a w0 w R hs hr hd hsat => h a w0 w R hs hr hd (p w R hsat)
theorem SC_fact {c : Code} {φ : Prop} (p : ∀ w R, sat w (Γ ++ R) → φ) (h : φ → SC P r n c T D Γ K) : SC P r n c T D Γ K :=
  fun a w0 w R hs hr hd hsat => h (p w R hsat) a w0 w R hs hr hd hsat
theorem SC_ex {c : Code} {α : Type} {F : α → HP} (h : ∀ x, SC P r n c T D (F x :: Γ) K) : SC P r n c T D (ex F :: Γ) K :=
  fun a w0 w R hs hr hd hsat => by
    obtain ⟨x, hx⟩ := sat_ex.1 (show sat w (ex F :: (Γ ++ R)) from hsat)
    exact h x a w0 w R hs hr hd hx
theorem SC_pur {c : Code} {φ : Prop} (h : φ → SC P r n c T D Γ K) : SC P r n c T D (pur φ :: Γ) K :=
  fun a w0 w R hs hr hd hsat => by
    obtain ⟨x, hx⟩ := sat_pur.1 (show sat w (pur φ :: (Γ ++ R)) from hsat)
    exact h x a w0 w R hs hr hd hx
theorem SC_grp {c : Code} {Δ : List HP} (h : SC P r n c T D (Δ ++ Γ) K) : SC P r n c T D (grp Δ :: Γ) K :=
  fun a w0 w R hs hr hd hsat => h a w0 w R hs hr hd (by
    have := sat_grp.1 (show sat w (grp Δ :: (Γ ++ R)) from hsat)
    rwa [List.append_assoc])

def kthen (P : Program) (r : Option Nat) (n : Nat) (y : Code) (K : Exit → Tm → List Deferred → List HP → Prop) : Exit → Tm → List Deferred → List HP → Prop
  | .normal, T, D, Γ => SC P r n y T D Γ K
  | e, T, D, Γ => K e T D Γ
def kblock (id : Nat) (K : Exit → Tm → List Deferred → List HP → Prop) : Exit → Tm → List Deferred → List HP → Prop
  | .exit id', T, D, Γ => match Nat.beq id' id with
    | true => K .normal T D Γ
    | false => K (.exit id') T D Γ
  | e, T, D, Γ => K e T D Γ

theorem SC_seq {x y : Code} (h : SC P r n x T D Γ (kthen P r n y K)) : SC P r n (.seq x y) T D Γ K := by
  intro a w0 w R hs hr hd hsat
  refine wpIn_seq (wpIn_mono (h a w0 w R hs hr hd hsat) ?_)
  rintro e a' w' ⟨hs', T', Γ', k, hr', hsat'⟩
  cases e with
  | normal => exact k a' w0 w' R hs' hr' rfl hsat'
  | _ => exact ⟨hs', T', Γ', k, hr', hsat'⟩
theorem SC_block {id : Nat} {c : Code} (h : SC P r n c T D Γ (kblock id K)) : SC P r n (.block id c) T D Γ K := by
  intro a w0 w R hs hr hd hsat
  refine wpIn_block (wpIn_mono (h a w0 w R hs hr hd hsat) ?_)
  rintro e a' w' ⟨hs', T', Γ', k, hr', hsat'⟩
  cases e with
  | exit id' =>
    simp only [kblock] at k
    show (if id' = id then _ else _)
    by_cases hid : id' = id
    · rw [if_pos hid]
      have : Nat.beq id' id = true := by simp [hid]
      rw [this] at k
      exact ⟨hs', T', Γ', k, hr', hsat'⟩
    · rw [if_neg hid]
      have : Nat.beq id' id = false := by
        cases hh : Nat.beq id' id with
        | false => rfl
        | true => exact absurd (Nat.eq_of_beq_eq_true hh) hid
      rw [this] at k
      exact ⟨hs', T', Γ', k, hr', hsat'⟩
  | _ => exact ⟨hs', T', Γ', k, hr', hsat'⟩
theorem SC_skip (h : K .normal T D Γ) : SC P r n .skip T D Γ K :=
  fun _ _ _ _ hs hr hd hsat => wpIn_skip ⟨hs, T, Γ, hd ▸ h, hr, hsat⟩
theorem SC_exit {id : Nat} (h : K (.exit id) T D Γ) : SC P r n (.exit id) T D Γ K :=
  fun _ _ _ _ hs hr hd hsat => wpIn_exit ⟨hs, T, Γ, hd ▸ h, hr, hsat⟩
theorem SC_ret (h : K .ret T D Γ) : SC P r n .ret T D Γ K :=
  fun _ _ _ _ hs hr hd hsat => wpIn_ret ⟨hs, T, Γ, hd ▸ h, hr, hsat⟩
theorem SC_cond {c : Operand} {x y : Code} {b : Bool} (hc : evT T c = some (.bool b)) (ht : b = true → SC P r n x T D Γ K) (hf : b = false → SC P r n y T D Γ K) :
    SC P r n (.cond c x y) T D Γ K := by
  intro a w0 w R hs hr hd hsat
  exact wpIn_cond_split (hr.eval hc) (fun e => ht e a w0 w R hs hr hd hsat) (fun e => hf e a w0 w R hs hr hd hsat)
theorem SC_if {c : Operand} {x y : Code} {p : Prop} [hp : Decidable p] (hc : evT T c = some (.bool (decide p))) (ht : p → SC P r n x T D Γ K) (hf : ¬ p → SC P r n y T D Γ K) :
    SC P r n (.cond c x y) T D Γ K :=
  SC_cond hc (fun e => ht (of_decide_eq_true e)) (fun e => hf (of_decide_eq_false e))
theorem SC_yes {c : Operand} {x y : Code} (hc : evT T c = some (.bool true)) (ht : SC P r n x T D Γ K) : SC P r n (.cond c x y) T D Γ K :=
  SC_cond hc (fun _ => ht) (fun e => by cases e)
theorem SC_no {c : Operand} {x y : Code} (hc : evT T c = some (.bool false)) (hf : SC P r n y T D Γ K) : SC P r n (.cond c x y) T D Γ K :=
  SC_cond hc (fun e => by cases e) (fun _ => hf)
theorem SC_region {id : Nat} {m : Nat} (hm : ops.size = m) (h : SOps P r n ops (List.range m) T D Γ K) : SC P r n (.region id ops false) T D Γ K := by
  subst hm
  exact fun a w0 w R hs hr hd hsat => wpIn_region (h a w0 w R hs hr hd hsat)

/-- A loop: at each head, for some x of a kind of one's own, what is known is Tf x, Γf x; m x falls. -/
theorem SC_loop {c : Code} {ι : Type} (Tf : ι → Tm) (Γf : ι → List HP) (m : ι → Nat) (x₀ : ι) (h0 : Sub (Tf x₀) T) (hg : Γ = Γf x₀)
    (round : ∀ x, SC P r n c (Tf x) D (Γf x) fun e T' D' Γ' => match e with
      | .normal => ∃ y, m y < m x ∧ Sub (Tf y) T' ∧ D' = D ∧ Γ' = Γf y
      | e => K e T' D' Γ') : SC P r n (.loop c) T D Γ K := by
  subst hg
  intro a w0 w R hs hr hd hsat b k cs hro hb hroom
  have key : ∀ j x a w, m x = j → Same w0 w → Rel n (Tf x) a → a.defers = D → sat w (Γf x ++ R) →
      ∃ e a' w', post K n w0 R e a' w' ∧ ArrivesIn (Machine.fenced P (FW r)) P (lone (b.atR a (.code c :: .inLoop c :: k)) cs w) b k cs e a' w' := by
    intro j
    induction j using Nat.strongRecOn with
    | _ j ih =>
      intro x a w hn hs hr hd hsat
      obtain ⟨e, a₁, w₁, hq, harr⟩ := round x a w0 w R hs hr hd hsat b (.inLoop c :: k) cs hro hb hroom
      obtain ⟨hs1, T1, Γ1, hk, hr1, hsat1⟩ := hq
      cases e with
      | normal =>
        obtain ⟨y, hlt, hsub, hd1, rfl⟩ := hk
        obtain ⟨e₂, a₂, w₂, hq₂, harr₂⟩ := ih (m y) (hn ▸ hlt) y a₁ w₁ rfl hs1 (hr1.sub hsub) hd1 hsat1
        exact ⟨e₂, a₂, w₂, hq₂, .of_steps (StepsIn.trans harr (.one (fenced_calm hb hroom rfl) stepR_inLoop)) harr₂⟩
      | exit id => exact ⟨_, a₁, w₁, ⟨hs1, T1, Γ1, hk, hr1, hsat1⟩, .pass (x := .inLoop c) rfl (fun _ _ => .inl (by simp)) harr⟩
      | goto l => exact ⟨_, a₁, w₁, ⟨hs1, T1, Γ1, hk, hr1, hsat1⟩, .pass (x := .inLoop c) rfl (fun _ _ => .inl (by simp)) harr⟩
      | ret => exact ⟨_, a₁, w₁, ⟨hs1, T1, Γ1, hk, hr1, hsat1⟩, .pass (x := .inLoop c) rfl (fun _ _ => .inl (by simp)) harr⟩
      | panic ch => exact ⟨_, a₁, w₁, ⟨hs1, T1, Γ1, hk, hr1, hsat1⟩, .pass (x := .inLoop c) rfl (fun _ _ => .inl (by simp)) harr⟩
      | outgrown => exact ⟨_, a₁, w₁, ⟨hs1, T1, Γ1, hk, hr1, hsat1⟩, .pass (x := .inLoop c) rfl (fun _ _ => .inl (by simp)) harr⟩
  obtain ⟨e, a', w', hq, harr⟩ := key _ x₀ a w rfl hs (hr.sub h0) hd hsat
  exact ⟨e, a', w', hq, .of_steps (.one (fenced_calm hb hroom rfl) stepR_loop) harr⟩
end

/-! functions -/
/-- What a call of a function does. -/
def SF (P : Program) (f : FuncId) (args : List Value) (Γ : List HP) (Q : Out → List HP → Prop) : Prop :=
  Enters P f ∧ ∀ w R, sat w (Γ ++ R) → CallsIn Fence.wide 0 P f args.toArray w fun
    | .returned v, w' => cpost w R Q (.ok v) w'
    | .panicked ch, w' => cpost w R Q (.panics ch) w'
    | .outgrown, _ => False
/-- What a function hands back, at what is known. -/
def RetV (P : Program) (fn : Func) (T : Tm) (Γ : List HP) (v : Value) : Prop :=
  ∀ a w R, Rel fn.ntmps T a → sat w (Γ ++ R) → (results fn a.tmps).run P w = .ok v w
def kbody (P : Program) (fn : Func) (Q : Out → List HP → Prop) : Exit → Tm → List Deferred → List HP → Prop
  | .normal, T, D, Γ | .ret, T, D, Γ => D = [] ∧ ∃ v, RetV P fn T Γ v ∧ Q (.ok v) Γ
  | .panic ch, _, D, Γ => D = [] ∧ Q (.panics ch) Γ
  | _, _, _, _ => False

theorem tget_numT : ∀ (l : List Value) (i t : Nat) (v : Value), tget (numT i l) t = some v → i ≤ t ∧ l[t - i]? = some v := by
  intro l
  induction l with
  | nil => intro i t v h; cases h
  | cons x l ih =>
    intro i t v h
    simp only [numT, tget] at h
    split at h
    · rename_i hb
      cases Nat.eq_of_beq_eq_true hb
      cases h
      exact ⟨Nat.le_refl _, by simp⟩
    · obtain ⟨h1, h2⟩ := ih (i + 1) t v h
      refine ⟨by omega, ?_⟩
      rw [show t - i = (t - (i + 1)) + 1 from by omega]
      simpa using h2
theorem Rel.enter {n : Nat} {args : List Value} (h : args.length ≤ n) : Rel n (numT 0 args) { tmps := args.toArray ++ Array.replicate (n - args.toArray.size) undef, defers := [] } := by
  refine ⟨by simp; omega, fun t v ht => ?_⟩
  obtain ⟨_, h2⟩ := tget_numT args 0 t v ht
  have hlt : t < args.length := by
    rcases Nat.lt_or_ge t args.length with h | h
    · exact h
    · simp [List.getElem?_eq_none h] at h2
  rw [Array.getD_eq_getD_getElem?, Array.getElem?_append_left (by simpa using hlt)]
  simp at h2 ⊢
  simp [h2]

theorem SF_of {P : Program} {f : FuncId} {fn : Func} {c : Code} {args : List Value} {Γ : List HP} {Q : Out → List HP → Prop} (hf : P.funcs[f]? = some fn) (hb : fn.body = some c)
    (he : Enters P f) (hn : args.length ≤ fn.ntmps) (h : SC P none fn.ntmps c (numT 0 args) [] Γ (kbody P fn Q)) : SF P f args Γ Q := by
  refine ⟨he, fun w R hsat => callsIn_of_wp hf hb trivial ?_ rfl⟩
  refine wpIn_mono (h _ w w R (Same.refl w) (Rel.enter hn) rfl hsat) ?_
  rintro e a' w' ⟨hs, T', Γ', hk, hr, hsat'⟩
  cases e with
  | normal =>
    obtain ⟨hd, v, hv, hq⟩ := hk
    exact ⟨hd, v, hv a' w' R hr hsat', hs, Γ', hq, hsat'⟩
  | ret =>
    obtain ⟨hd, v, hv, hq⟩ := hk
    exact ⟨hd, v, hv a' w' R hr hsat', hs, Γ', hq, hsat'⟩
  | panic ch =>
    obtain ⟨hd, hq⟩ := hk
    exact ⟨hd, hs, Γ', hq, hsat'⟩
  | exit id => exact hk.elim
  | goto l => exact hk.elim
  | outgrown => exact hk.elim

theorem SF.mono {P : Program} {f : FuncId} {args : List Value} {Γ : List HP} {Q Q' : Out → List HP → Prop} (h : SF P f args Γ Q) (hq : ∀ e Γ', Q e Γ' → Q' e Γ') : SF P f args Γ Q' :=
  ⟨h.1, fun w R hsat => CallsIn.mono (h.2 w R hsat) fun e w' he => by
    cases e with
    | returned v => obtain ⟨s, Γ', q, k⟩ := he; exact ⟨s, Γ', hq _ _ q, k⟩
    | panicked ch => obtain ⟨s, Γ', q, k⟩ := he; exact ⟨s, Γ', hq _ _ q, k⟩
    | outgrown => exact he⟩
theorem SV.mono {P : Program} {fv : Value} {args : List Value} {Γ : List HP} {Q Q' : Out → List HP → Prop} (h : SV P fv args Γ Q) (hq : ∀ e Γ', Q e Γ' → Q' e Γ') : SV P fv args Γ Q' :=
  fun w R hsat => nextP_mono (fun _ _ ⟨s, Γ', q, k⟩ => ⟨s, Γ', hq _ _ q, k⟩) _ (h w R hsat)
/-- The frame. -/
theorem SV.frame {P : Program} {fv : Value} {args : List Value} {Γ Δ F : List HP} {Q : Out → List HP → Prop} (h : SV P fv args Δ Q) (p : Γ.Perm (Δ ++ F)) :
    SV P fv args Γ fun e Γ' => ∃ Δ', Q e Δ' ∧ Γ' = Δ' ++ F := by
  intro w R hsat
  have h1 := sat_perm (List.Perm.append_right R p) hsat
  rw [List.append_assoc] at h1
  refine nextP_mono ?_ _ (h w (F ++ R) h1)
  rintro e w' ⟨s, Δ', q, k⟩
  exact ⟨s, Δ' ++ F, ⟨Δ', q, rfl⟩, by rwa [List.append_assoc]⟩
/-- A plain function, or a closure, called as a value. -/
theorem SV_fn {P : Program} {f : FuncId} {first cap : Array Value} {args l : List Value} {Γ : List HP} {Q : Out → List HP → Prop} (hl : first.toList ++ args ++ cap.toList = l)
    (h : SF P f l Γ Q) : SV P (.func (.func f) first cap) args Γ Q := by
  subst hl
  intro w R hsat
  have e : (callSem (.func (.func f) first cap) args.toArray).run P w = .ok (.enter f (first.toList ++ args ++ cap.toList).toArray) w := by
    have := h.1 (first ++ args.toArray ++ cap) w
    have e2 : first ++ args.toArray ++ cap = (first.toList ++ args ++ cap.toList).toArray := by simp
    rw [e2] at this
    simp only [callSem, Deferred.ofValue, invoke]
    rw [← e2] at this ⊢
    exact this
  rw [e]
  refine CallsIn.mono (h.2 w R hsat) ?_
  intro e' w' he
  cases e' <;> exact he
end Go.Proofs.Ytdganbddgobfdaa
