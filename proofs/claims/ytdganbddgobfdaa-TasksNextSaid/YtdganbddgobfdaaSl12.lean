/- Ranges over functions; functions that leave with a mark; what is known of a call that only hands back; small rules. -/
import Derived.Test.YtdganbddgobfdaaSl11
import Derived.Test.YtdganbddgobfdaaSl6
import Derived.RangeFuncLeaves
import Derived.RangeFuncRecord
namespace Go.Proofs.Ytdganbddgobfdaa

instance (priority := low) Takes.whole {Γ : List HP} : Takes Γ Γ [] := ⟨by simp⟩
instance (priority := 10) Takes.skip {A : HP} {Γ Δ F : List HP} [k : Takes Γ Δ F] : Takes (A :: Γ) Δ (A :: F) := ⟨(List.Perm.cons A k.p).trans List.perm_middle.symm⟩
/-! endings that hand back -/
abbrev okp (Q : Value → List HP → Prop) : Out → List HP → Prop := fun e Γ' => ∃ v, e = .ok v ∧ Q v Γ'
/-- Q, or what has more. -/
def wk (Q : Out → List HP → Prop) : Out → List HP → Prop := fun e Γ' => ∃ Δ F, Γ'.Perm (Δ ++ F) ∧ Q e Δ
theorem sat_take {w : World} {Γ Δ F R : List HP} (p : Γ.Perm (Δ ++ F)) (s : sat w (Γ ++ R)) : sat w (Δ ++ R) := by
  refine sat_drops (Γ := F) (sat_perm ?_ s)
  refine (List.Perm.append_right R p).trans ?_
  rw [← List.append_assoc]
  exact List.Perm.append_right R List.perm_append_comm
theorem SF_wk {P : Program} {f : FuncId} {args : List Value} {Γ : List HP} {Q : Out → List HP → Prop} (h : SF P f args Γ (wk Q)) : SF P f args Γ Q :=
  ⟨h.1, fun w R hsat => CallsIn.mono (h.2 w R hsat) fun e w' he => by
    cases e with
    | returned v => obtain ⟨s, Γ', ⟨Δ, F, p, q⟩, k⟩ := he; exact ⟨s, Δ, q, sat_take p k⟩
    | panicked ch => obtain ⟨s, Γ', ⟨Δ, F, p, q⟩, k⟩ := he; exact ⟨s, Δ, q, sat_take p k⟩
    | outgrown => exact he⟩
theorem SF_enterW {P : Program} {f : FuncId} {fn : Func} {n : Nat} {rs : Array ResultVar} [k : FN P f fn n rs] {c : Code} {args : List Value} {Γ : List HP} {Q : Out → List HP → Prop}
    (hb : fn.body = some c) (hlen : Nat.ble args.length n = true) (h : SC P none n c (numT 0 args) [] Γ (kfun P rs n (wk Q))) : SF P f args Γ Q := SF_wk (SF_enter hb hlen h)
section
variable {P : Program} {n : Nat} {T : Tm} {Γ Δ F : List HP} {Q : Out → List HP → Prop}
theorem wk0 [k : Takes Γ Δ F] {e : Out} (hq : Q e Δ) : wk Q e Γ := ⟨Δ, F, k.p, hq⟩
theorem wkR {e : Out} (hq : Q e Γ) : wk Q e Γ := ⟨Γ, [], by simp, hq⟩
end
section
variable {P : Program} {r : Option Nat} {n : Nat} {ops : Array Oper} {T : Tm} {D : List Deferred} {Γ : List HP} {K : Exit → Tm → List Deferred → List HP → Prop}
/-- Some of the list, in an order of one's own. -/
theorem SC_take {c : Code} (Δ : List HP) {F : List HP} [k : Takes Γ Δ F] (h : SC P r n c T D Δ K) : SC P r n c T D Γ K := SC_weak (fun _ _ s => sat_take k.p s) h
theorem SOps_take {l : List Nat} (Δ : List HP) {F : List HP} [k : Takes Γ Δ F] (h : SOps P r n ops l T D Δ K) : SOps P r n ops l T D Γ K := SOps_weak (fun _ _ s => sat_take k.p s) h
theorem SC_view {c : Code} {A B : HP} {Γ' : List HP} [k : Pick Γ A Γ'] (h : ∀ w Γ, sat w (A :: Γ) → sat w (B :: Γ)) (hc : SC P r n c T D (B :: Γ') K) : SC P r n c T D Γ K :=
  SC_weak (fun w R s => h w _ (sat_perm (List.Perm.append_right R k.p) s)) hc
theorem SOps_view {l : List Nat} {A B : HP} {Γ' : List HP} [k : Pick Γ A Γ'] (h : ∀ w Γ, sat w (A :: Γ) → sat w (B :: Γ)) (hc : SOps P r n ops l T D (B :: Γ') K) : SOps P r n ops l T D Γ K :=
  SOps_weak (fun w R s => h w _ (sat_perm (List.Perm.append_right R k.p) s)) hc
/-- An operation that hands back what is known in part. -/
theorem SOps_o {i dd : Nat} {l : List Nat} {o : Oper} {Q : Value → List HP → Prop} (ho : nthO ops.toList i = some o) (hw : wantT ops T o = some true) (hd : o.dst = some dd) (hlt : Nat.blt dd n = true)
    (hop : SOp P o T Γ (okp Q)) (hv : ∀ v Γ', Q v Γ' → SOps P r n ops l ((dd, v) :: T) D Γ' K) : SOps P r n ops (i :: l) T D Γ K :=
  SOps_opD ho hw hd hlt hop (fun v _ ⟨_, e, q⟩ => by cases e; exact hv v _ q) (fun _ _ ⟨_, e, _⟩ => by cases e)
theorem SOps_new2 {α β : Type} {i dd : Nat} {l : List Nat} {o : Oper} {vf : α → β → Value} {Γf : α → β → List HP} (ho : nthO ops.toList i = some o) (hw : wantT ops T o = some true) (hd : o.dst = some dd) (hlt : Nat.blt dd n = true)
    (hop : SOp P o T Γ fun e Γ' => ∃ a b, e = .ok (vf a b) ∧ Γ' = Γf a b) (h : ∀ a b, SOps P r n ops l ((dd, vf a b) :: T) D (Γf a b) K) : SOps P r n ops (i :: l) T D Γ K :=
  SOps_opD ho hw hd hlt hop (fun _ _ ⟨a, b, e, g⟩ => by cases e; cases g; exact h a b) (fun _ _ ⟨a, b, e, _⟩ => by cases e)
theorem SOps_callO {i dd : Nat} {l : List Nat} {o : Oper} {c : Call} {fx : Operand} {f : FuncId} {first cap : Array Value} {args all : List Value} {Δ F : List HP} {Q : Value → List HP → Prop}
    (ho : nthO ops.toList i = some o) (hw : wantT ops T o = some true) (hd : o.dst = some dd) (hlt : Nat.blt dd n = true) (ho' : o.op = .call c) (hc : c.callee = .value fx)
    (hf : evT T fx = some (.func (.func f) first cap)) (ha : argsT T c.args.toList = some args) (hl : first.toList ++ args ++ cap.toList = all)
    (h : SF P f all Δ (okp Q)) [k : Takes Γ Δ F] (hv : ∀ v Δ', Q v Δ' → SOps P r n ops l ((dd, v) :: T) D (Δ' ++ F) K) : SOps P r n ops (i :: l) T D Γ K :=
  SOps_call ho hw hd hlt ho' hc hf ha hl h (fun v _ ⟨_, e, q⟩ => by cases e; exact hv v _ q) (fun _ _ ⟨_, e, _⟩ => by cases e)
theorem SOps_callOW {i dd : Nat} {l : List Nat} {o : Oper} {c : Call} {fx : Operand} {f : FuncId} {first cap : Array Value} {args all : List Value} {Q : Value → List HP → Prop}
    (ho : nthO ops.toList i = some o) (hw : wantT ops T o = some true) (hd : o.dst = some dd) (hlt : Nat.blt dd n = true) (ho' : o.op = .call c) (hc : c.callee = .value fx)
    (hf : evT T fx = some (.func (.func f) first cap)) (ha : argsT T c.args.toList = some args) (hl : first.toList ++ args ++ cap.toList = all)
    (h : SF P f all Γ (okp Q)) (hv : ∀ v Γ', Q v Γ' → SOps P r n ops l ((dd, v) :: T) D Γ' K) : SOps P r n ops (i :: l) T D Γ K :=
  SOps_callW ho hw hd hlt ho' hc hf ha hl h (fun v _ ⟨_, e, q⟩ => by cases e; exact hv v _ q) (fun _ _ ⟨_, e, _⟩ => by cases e)
end
section
variable {P : Program} {n : Nat} {ops : Array Oper} {ch ea : List Nat} {Φ : List HP} {D : List Deferred} {K : Exit → Tm → List Deferred → List HP → Prop} {T : Tm} {Δ : List HP} {l : List Nat}
theorem DR_o {i d : Nat} {o : Oper} {Q : Value → List HP → Prop} (ho : nthO ops.toList i = some o) (hw : wantT ops T o = some true) (hd : o.dst = some d) (hlt : Nat.blt d n = true) (hc : ch.contains i = true)
    (hop : SOp P o T Δ (okp Q)) (hv : ∀ v Δ', Q v Δ' → DR P n ops ch ea Φ D K l ((d, v) :: T) Δ') : DR P n ops ch ea Φ D K (i :: l) T Δ :=
  DR_op ho hw hd hlt hc hop (fun v _ ⟨_, e, q⟩ => by cases e; exact hv v _ q) (fun _ _ ⟨_, e, _⟩ => by cases e)
theorem DR_nilE (h : K .normal T D Δ) : DR P n ops ch ea [] D K [] T Δ := h
theorem DR_new2 {α β : Type} {i d : Nat} {o : Oper} {vf : α → β → Value} {Δf : α → β → List HP} (ho : nthO ops.toList i = some o) (hw : wantT ops T o = some true) (hd : o.dst = some d) (hlt : Nat.blt d n = true) (hc : ch.contains i = true)
    (hop : SOp P o T Δ fun e Γ' => ∃ a b, e = .ok (vf a b) ∧ Γ' = Δf a b) (h : ∀ a b, DR P n ops ch ea Φ D K l ((d, vf a b) :: T) (Δf a b)) : DR P n ops ch ea Φ D K (i :: l) T Δ :=
  DR_op ho hw hd hlt hc hop (fun _ _ ⟨a, b, e, g⟩ => by cases e; cases g; exact h a b) (fun _ _ ⟨a, b, e, _⟩ => by cases e)
theorem DR_callO {i d : Nat} {o : Oper} {c : Call} {fx : Operand} {f : FuncId} {first cap : Array Value} {args all : List Value} {Δ₀ F : List HP} {Q : Value → List HP → Prop}
    (ho : nthO ops.toList i = some o) (hw : wantT ops T o = some true) (hd : o.dst = some d) (hlt : Nat.blt d n = true) (hcc : ch.contains i = true) (ho' : o.op = .call c) (hc : c.callee = .value fx)
    (hf : evT T fx = some (.func (.func f) first cap)) (ha : argsT T c.args.toList = some args) (hl : first.toList ++ args ++ cap.toList = all)
    (h : SF P f all Δ₀ (okp Q)) [k : Takes Δ Δ₀ F] (hv : ∀ v Δ', Q v Δ' → DR P n ops ch ea Φ D K l ((d, v) :: T) (Δ' ++ F)) : DR P n ops ch ea Φ D K (i :: l) T Δ :=
  DR_call ho hw hd hlt hcc ho' hc hf ha hl h (fun v _ ⟨_, e, q⟩ => by cases e; exact hv v _ q) (fun _ _ ⟨_, e, _⟩ => by cases e)
theorem DR_callOW {i d : Nat} {o : Oper} {c : Call} {fx : Operand} {f : FuncId} {first cap : Array Value} {args all : List Value} {Q : Value → List HP → Prop}
    (ho : nthO ops.toList i = some o) (hw : wantT ops T o = some true) (hd : o.dst = some d) (hlt : Nat.blt d n = true) (hcc : ch.contains i = true) (ho' : o.op = .call c) (hc : c.callee = .value fx)
    (hf : evT T fx = some (.func (.func f) first cap)) (ha : argsT T c.args.toList = some args) (hl : first.toList ++ args ++ cap.toList = all)
    (h : SF P f all Δ (okp Q)) (hv : ∀ v Δ', Q v Δ' → DR P n ops ch ea Φ D K l ((d, v) :: T) Δ') : DR P n ops ch ea Φ D K (i :: l) T Δ :=
  DR_callW ho hw hd hlt hcc ho' hc hf ha hl h (fun v _ ⟨_, e, q⟩ => by cases e; exact hv v _ q) (fun _ _ ⟨_, e, _⟩ => by cases e)
end

section
variable {P : Program} {r : Option Nat} {n : Nat} {ops : Array Oper} {T : Tm} {D : List Deferred} {Γ : List HP} {K : Exit → Tm → List Deferred → List HP → Prop}
theorem SC_drawE [m : Mixed P] {id : Nat} (l0 ch ea : List Nat) (hc : okDraw ops l0 ch ea = true) (h : DR P n ops ch ea [] D K l0 T Γ) : SC P r n (.region id ops true) T D Γ K :=
  SC_draw (Φ' := []) l0 ch ea hc (List.Perm.refl _) h
theorem SC_drawP [m : Mixed P] {id : Nat} (l0 ch ea : List Nat) (hc : okDraw ops l0 ch ea = true) (Φ : List HP) {Δ : List HP} [k : Takes Γ Φ Δ] (h : DR P n ops ch ea Φ D K l0 T Δ) : SC P r n (.region id ops true) T D Γ K :=
  SC_draw (Φ' := Φ) l0 ch ea hc k.p h
end

/-! numbers divided, shifted -/
section
variable {P : Program} {o : Oper} {T : Tm} {Γ : List HP} {t t' : TypeId} {x y : Operand}
theorem SQ_quo {k k' : IntKind} {i j : Int} (ho : o.op = .binOp .quo t x y t') (hx : evT T x = some (.int k i)) (hy : evT T y = some (.int k' j)) (hk : Nat.beq (kno k) (kno k') = true) (hj : j ≠ 0) :
    SQ P o T Γ (.int k (k.wrap (i.tdiv j))) := by
  refine ⟨(by rw [ho]; intro c h; cases h), fun n a w R hr hsat => ?_⟩
  cases kno_inj hk
  simp [execOp, ho, hr.eval hx, hr.eval hy, binOp, Op.intDiv, hj, eqGuard_quiet (P := P) (op := .quo) (t := t) (x := x) (y := y) (a := .int k i) (b := .int k j) (.inl (by simp)) (by intro _ _ h; cases h)]
theorem SQ_rem {k k' : IntKind} {i j : Int} (ho : o.op = .binOp .rem t x y t') (hx : evT T x = some (.int k i)) (hy : evT T y = some (.int k' j)) (hk : Nat.beq (kno k) (kno k') = true) (hj : j ≠ 0) :
    SQ P o T Γ (.int k (i.tmod j)) := by
  refine ⟨(by rw [ho]; intro c h; cases h), fun n a w R hr hsat => ?_⟩
  cases kno_inj hk
  simp [execOp, ho, hr.eval hx, hr.eval hy, binOp, Op.intDiv, hj, eqGuard_quiet (P := P) (op := .rem) (t := t) (x := x) (y := y) (a := .int k i) (b := .int k j) (.inl (by simp)) (by intro _ _ h; cases h)]
theorem SQ_shl {k k' : IntKind} {i j : Int} (ho : o.op = .binOp .shl t x y t') (hx : evT T x = some (.int k i)) (hy : evT T y = some (.int k' j)) (hj : 0 ≤ j) :
    SQ P o T Γ (.int k (k.wrap (i * 2 ^ min j.toNat k.bits))) := by
  refine ⟨(by rw [ho]; intro c h; cases h), fun n a w R hr hsat => ?_⟩
  have hj' : ¬ j < 0 := by omega
  simp [execOp, ho, hr.eval hx, hr.eval hy, binOp, Op.shift, hj', eqGuard_quiet (P := P) (op := .shl) (t := t) (x := x) (y := y) (a := .int k i) (b := .int k' j) (.inl (by simp)) (by intro _ _ h; cases h)]
theorem SQ_shr {k k' : IntKind} {i j : Int} (ho : o.op = .binOp .shr t x y t') (hx : evT T x = some (.int k i)) (hy : evT T y = some (.int k' j)) (hj : 0 ≤ j) :
    SQ P o T Γ (.int k (i.fdiv (2 ^ min j.toNat k.bits))) := by
  refine ⟨(by rw [ho]; intro c h; cases h), fun n a w R hr hsat => ?_⟩
  have hj' : ¬ j < 0 := by omega
  simp [execOp, ho, hr.eval hx, hr.eval hy, binOp, Op.shift, hj', eqGuard_quiet (P := P) (op := .shr) (t := t) (x := x) (y := y) (a := .int k i) (b := .int k' j) (.inl (by simp)) (by intro _ _ h; cases h)]
end
theorem SOp_storeI {P : Program} {o : Oper} {T : Tm} {Γ : List HP} {t : TypeId} {d : TypeDesc} {sz bs : Nat} {z : Value} {x y : Operand} {b off : Nat} {c : Array Value} {et : TypeId} {f : Nat × Nat} {v : Value} {mk : HP → List HP} (ho : o.op = .store t x y) [k : TOK P t d sz bs z]
    (hx : evT T x = some (.pointer (some ⟨b, off, none⟩))) (hy : evT T y = some v) [ku : Upd Γ b (.cells c et f) mk] (hsz : sz = 1) (hpl : plainV v = true)
    (hfr : Nat.ble f.2 f.1 = true) (hoff : off < c.toList.length) : SOp P o T Γ (det undef (mk (pt b (.cells (c.toList.set off v).toArray et f)))) := by
  subst hsz
  have e : v.cells.toList = [v] := by cases v <;> first | rfl | cases hpl
  have hf : f.2 ≤ f.1 := Nat.le_of_ble_eq_true hfr
  have h1 := SOp_storeG (k := k) (ku := ku) ho hx hy e rfl (by simpa using hpl) (by omega) (.inl hf)
  exact h1
/-- A struct is stored: the whole of a block, or a part. -/
theorem SOp_storeAll {P : Program} {o : Oper} {T : Tm} {Γ : List HP} {t : TypeId} {d : TypeDesc} {sz bs : Nat} {z : Value} {x y : Operand} {b : Nat} {c : Array Value} {et : TypeId} {f : Nat × Nat} {v : Value} {vs : List Value} {mk : HP → List HP} (ho : o.op = .store t x y) [k : TOK P t d sz bs z]
    (hx : evT T x = some (.pointer (some ⟨b, 0, none⟩))) (hy : evT T y = some v) [ku : Upd Γ b (.cells c et f) mk] (hvs : v.cells.toList = vs) (hsz : Nat.beq vs.length sz = true) (hpl : vs.all plainV = true)
    (hoff : Nat.beq sz c.toList.length = true) (hfr : frOK f 0 sz = true) : SOp P o T Γ (det undef (mk (pt b (.cells vs.toArray et f)))) := by
  have h1 := Nat.eq_of_beq_eq_true hsz
  have h2 := Nat.eq_of_beq_eq_true hoff
  have e : setc c.toList 0 vs = vs := by
    have h := setc_append vs [] c.toList (by omega)
    simp only [List.nil_append, List.length_nil] at h
    rw [h, List.drop_of_length_le (by omega), List.append_nil]
  have := SOp_storeG (k := k) (ku := ku) ho hx hy hvs h1 (by simpa using hpl) (by omega) (frOK_ok hfr)
  rw [e] at this
  exact this
theorem SOp_storeB {P : Program} {o : Oper} {T : Tm} {Γ : List HP} {t : TypeId} {d : TypeDesc} {sz bs : Nat} {z : Value} {x y : Operand} {b off : Nat} {c : Array Value} {et : TypeId} {f : Nat × Nat} {v : Value} {vs : List Value} {mk : HP → List HP} (ho : o.op = .store t x y) [k : TOK P t d sz bs z]
    (hx : evT T x = some (.pointer (some ⟨b, off, none⟩))) (hy : evT T y = some v) [ku : Upd Γ b (.cells c et f) mk] (hvs : v.cells.toList = vs) (hsz : Nat.beq vs.length sz = true) (hpl : vs.all plainV = true)
    (hoff : Nat.ble (off + sz) c.toList.length = true) (hfr : frOK f off sz = true) : SOp P o T Γ (det undef (mk (pt b (.cells (setc c.toList off vs).toArray et f)))) :=
  SOp_storeG (k := k) (ku := ku) ho hx hy hvs (Nat.eq_of_beq_eq_true hsz) (by simpa using hpl) (Nat.le_of_ble_eq_true hoff) (frOK_ok hfr)
section
variable {P : Program} {r : Option Nat} {n : Nat} {ops : Array Oper} {T : Tm} {D : List Deferred} {Γ : List HP} {K : Exit → Tm → List Deferred → List HP → Prop}
/-- A temporary's value in other words. -/
theorem SOps_know {l : List Nat} (t : Nat) {v : Value} (e : tget T t = some v) (h : SOps P r n ops l ((t, v) :: T) D Γ K) : SOps P r n ops l T D Γ K := SOps_sub h (Sub.cons e Sub.refl)
theorem SC_know {c : Code} (t : Nat) {v : Value} (e : tget T t = some v) (h : SC P r n c ((t, v) :: T) D Γ K) : SC P r n c T D Γ K := SC_sub h (Sub.cons e Sub.refl)
/-- The list in other words. -/
theorem SOps_eq {l : List Nat} {Δ : List HP} (e : Γ = Δ) (h : SOps P r n ops l T D Δ K) : SOps P r n ops l T D Γ K := e ▸ h
theorem SC_eq {c : Code} {Δ : List HP} (e : Γ = Δ) (h : SC P r n c T D Δ K) : SC P r n c T D Γ K := e ▸ h
end
def valsT (T : Tm) : Nat → List (Nat × Operand) → Option (List Value)
  | _, [] => some []
  | k, (i, x) :: l => match Nat.beq i k with
    | true => match evT T x with
      | some v => match valsT T (k + 1) l with
        | some vs => some (v :: vs)
        | none => none
      | none => none
    | false => none
/-- A slice put together of values of one cell each. -/
theorem SOp_build1 {P : Program} {o : Oper} {T : Tm} {Γ : List HP} {t : TypeId} {d : TypeDesc} {sz bs : Nat} {z : Value} {el : TypeId} {m : Nat} {parts : Array (Nat × Operand)} {vs : List (Nat × Value)} {l l' zs : List Value} (ho : o.op = .buildSlice t m parts) [k : SLC P t el sz] [ke : TOK P el d sz bs z]
    (hp : partsT T parts.toList = some vs) (hz : Nat.beq z.cells.toList.length sz = true) (hb : Nat.ble (m * sz) 16777216 = true) (hzs : zerosL z m = zs) (hf : fillL (fun i => some (i * sz, sz)) zs vs = some l') (hl : valsT T 0 parts.toList = some l) (he : l' = l) :
    SOp P o T Γ fun e Γ' => ∃ b, e = .ok (.slice (some ⟨b, 0, none⟩) m m) ∧ Γ' = pt b (.cells l.toArray el (0, 0)) :: Γ := by
  subst he
  exact SOp_buildSlice (k := k) (ke := ke) ho hp hz hb hzs hf
theorem first_reads {P : Program} {Γ : List HP} {b off m cap n sz : Nat} {c : Array Value} {et : TypeId} {f : Nat × Nat} {X : List Value} [kr : Reads Γ b (.cells c et f)] (h : (c.toList.drop off).take (n * sz) = X) (hl : off + n * sz ≤ c.toList.length) (w : World) (R : List HP) (s : sat w (Γ ++ R)) :
    (Builtin.firstCells sz n (.slice (some ⟨b, off, none⟩) m cap)).run P w = .ok X.toArray w := by
  subst h
  exact run_loadCells (kr.h w R s) (by simpa using hl)
theorem iv {k : IntKind} {x y : Int} (h : x = y) : some (Value.int k x) = some (Value.int k y) := by rw [h]

/-! what is handed back, out of temporaries and cells -/
def resOne (r : ResultVar) (tmps : Array Value) : Sem Value := match r with
  | .tmp t => pure (tmps.getD t undef)
  | .cell a t => do loadVar t (← asAddr (tmps.getD a undef))
def RV (P : Program) (n : Nat) (T : Tm) (Γ : List HP) (r : ResultVar) (v : Value) : Prop := ∀ a w R, Rel n T a → sat w (Γ ++ R) → (resOne r a.tmps).run P w = .ok v w
section
variable {P : Program} {n : Nat} {T : Tm} {Γ : List HP} {r r2 r3 : ResultVar} {v v2 v3 : Value} {Q : Out → List HP → Prop}
theorem RV_tmp {t : Nat} (h : tget T t = some v) : RV P n T Γ (.tmp t) v := fun a w R hr _ => by simp [resOne, hr.get h]
theorem RV_cell {p b off : Nat} {t : TypeId} {d : TypeDesc} {sz bs : Nat} {z : Value} {c : Array Value} {et : TypeId} {f : Nat × Nat} [k : TOK P t d sz bs z] (ha : tget T p = some (.pointer (some ⟨b, off, none⟩))) [kr : Reads Γ b (.cells c et f)]
    (hna : isAggD d = false) (hv : c.toList[off]? = some v) : RV P n T Γ (.cell p t) v := fun a w R hr hs => by
  have h1 : c[off]? = some v := by rw [← hv]; simp
  simp [resOne, hr.get ha, asAddr, loadVar, k.run_isAgg, hna, load, Sem.run, cell_of (kr.h w R hs), h1]
theorem RV_cellA {p b off : Nat} {t : TypeId} {d : TypeDesc} {sz bs : Nat} {z : Value} {c : Array Value} {et : TypeId} {f : Nat × Nat} [k : TOK P t d sz bs z] (ha : tget T p = some (.pointer (some ⟨b, off, none⟩))) [kr : Reads Γ b (.cells c et f)]
    (hna : isAggD d = true) (hv : off + sz ≤ c.toList.length) : RV P n T Γ (.cell p t) (.agg ((c.toList.drop off).take sz).toArray) := fun a w R hr hs => by
  have hc := run_loadCells (P := P) (kr.h w R hs) (show off + sz ≤ c.size from by simpa using hv)
  simp [resOne, hr.get ha, asAddr, loadVar, k.run_isAgg, hna, k.run_size, hc]
theorem retV1 (h : RV P n T Γ r v) : RetR P #[r] n T Γ v := fun a w R hr hs => by
  have h1 := h a w R hr hs
  cases r <;> simp_all [resultsA, resOne]
theorem resultsA_eq (rs : Array ResultVar) (tmps : Array Value) : resultsA rs tmps = (do let vs ← rs.mapM (resOne · tmps); pure (if h : vs.size = 1 then vs[0] else .tuple vs)) := by
  unfold resultsA
  congr 2
theorem retV2 (h : RV P n T Γ r v) (h2 : RV P n T Γ r2 v2) : RetR P #[r, r2] n T Γ (.tuple #[v, v2]) := fun a w R hr hs => by
  rw [resultsA_eq]
  simp [h a w R hr hs, h2 a w R hr hs]
theorem retV3 (h : RV P n T Γ r v) (h2 : RV P n T Γ r2 v2) (h3 : RV P n T Γ r3 v3) : RetR P #[r, r2, r3] n T Γ (.tuple #[v, v2, v3]) := fun a w R hr hs => by
  rw [resultsA_eq]
  simp [h a w R hr hs, h2 a w R hr hs, h3 a w R hr hs]
theorem kret {rs : Array ResultVar} (hv : RetR P rs n T Γ v) (hq : Q (.ok v) Γ) : kfun P rs n Q .ret T [] Γ := ⟨rfl, _, hv, hq⟩
theorem kend {rs : Array ResultVar} (hv : RetR P rs n T Γ v) (hq : Q (.ok v) Γ) : kfun P rs n Q .normal T [] Γ := ⟨rfl, _, hv, hq⟩
end

/-! functions that leave with marks -/
abbrev markD (r : Nat) : Deferred := { target := .collected r, args := #[] }
abbrev markH (r : Nat) : HP := pt r (.deferred (some []))
def kfunM (P : Program) (rs : Array ResultVar) (n : Nat) (Q : Out → List HP → Prop) : Exit → Tm → List Deferred → List HP → Prop
  | .normal, T, D, Γ | .ret, T, D, Γ => ∃ (ms : List Nat) (Γ₀ : List HP) (v : Value), D = ms.map markD ∧ Γ.Perm (ms.map markH ++ Γ₀) ∧ RetR P rs n T Γ₀ v ∧ Q (.ok v) Γ₀
  | .panic ch, _, D, Γ => ∃ (ms : List Nat) (Γ₀ : List HP), D = ms.map markD ∧ Γ.Perm (ms.map markH ++ Γ₀) ∧ Q (.panics ch) Γ₀
  | _, _, _, _ => False
theorem sat_putObj {w : World} {b : Nat} {o o' : Obj} {Γ : List HP} (s : sat w (pt b o :: Γ)) : sat (w.putObj b o') (pt b o' :: Γ) := by
  have hlt := sat_lt s
  refine sat_set s ?_ fun c hc => ?_
  · simp [World.putObj, hlt]
  · simp only [World.putObj, Array.getElem?_setIfInBounds]
    rw [if_neg (Ne.symm hc)]
theorem Same.putObj (w : World) (b : Nat) (o : Obj) : Same w (w.putObj b o) := ⟨rfl, rfl, rfl, by simp [World.putObj]⟩
theorem leavesM {P : Program} {fn : Func} {tmps : Array Value} {Rr : Ending → World → Prop} {u : FrameMode} {Γ₀ R : List HP} {w0 : World} (hu : u ≠ .run)
    (hR : ∀ w, Same w0 w → sat w (Γ₀ ++ R) → LeavesIn Fence.wide 0 P fn tmps Rr [] u w) : ∀ (ms : List Nat) (w : World), Same w0 w → sat w (ms.map markH ++ Γ₀ ++ R) → LeavesInM Fence.wide 0 P fn tmps Rr (ms.map markD) u w := by
  intro ms
  induction ms with
  | nil => exact fun w hs s => hR w hs s
  | cons m ms ih =>
    intro w hs s
    refine ⟨hu, .inl ⟨m, _, rfl, run_takeDeferred (sat_pt s), ih _ (hs.trans (Same.putObj _ _ _)) (sat_drop (sat_putObj s))⟩⟩
theorem SF_enterM {P : Program} {f : FuncId} {fn : Func} {n : Nat} {rs : Array ResultVar} [k : FN P f fn n rs] {c : Code} {args : List Value} {Γ : List HP} {Q : Out → List HP → Prop}
    (hb : fn.body = some c) (hlen : Nat.ble args.length n = true) (h : SC P none n c (numT 0 args) [] Γ (kfunM P rs n Q)) : SF P f args Γ Q := by
  obtain rfl := k.hn; obtain rfl := k.hr
  refine ⟨k.he, fun w R hsat => callsIn_of_wp_marks k.hf hb trivial ?_ rfl⟩
  refine wpIn_mono (h _ w w R (Same.refl w) (Rel.enter (Nat.le_of_ble_eq_true hlen)) rfl hsat) ?_
  have fin : ∀ (a' : Act) (w' : World) (T' : Tm) (Γ' : List HP), Same w w' → Rel fn.ntmps T' a' → sat w' (Γ' ++ R) → (∃ (ms : List Nat) (Γ₀ : List HP) (v : Value), a'.defers = ms.map markD ∧ Γ'.Perm (ms.map markH ++ Γ₀) ∧ RetR P fn.results fn.ntmps T' Γ₀ v ∧ Q (.ok v) Γ₀) →
      LeavesInM Fence.wide 0 P fn a'.tmps (fun
        | .returned v, w' => cpost w R Q (.ok v) w'
        | .panicked ch, w' => cpost w R Q (.panics ch) w'
        | .outgrown, _ => False) a'.defers .returning w' := by
    rintro a' w' T' Γ' hs hr hsat' ⟨ms, Γ₀, v, hd, p, hv, hq⟩
    rw [hd]
    refine leavesM (w0 := w) (Γ₀ := Γ₀) (R := R) (by simp) ?_ ms w' hs (sat_perm (List.Perm.append_right R p) hsat')
    intro w1 hs1 s1
    show ∃ v, _ ∧ _
    exact ⟨v, hv a' w1 R hr s1, hs1, Γ₀, hq, s1⟩
  rintro e a' w' ⟨hs, T', Γ', hk, hr, hsat'⟩
  cases e with
  | normal => exact fin a' w' T' Γ' hs hr hsat' hk
  | ret => exact fin a' w' T' Γ' hs hr hsat' hk
  | panic ch =>
    obtain ⟨ms, Γ₀, hd, p, hq⟩ := hk
    show LeavesInM _ _ _ _ _ _ _ _ _
    rw [hd]
    refine leavesM (w0 := w) (Γ₀ := Γ₀) (R := R) (by simp) ?_ ms w' hs (sat_perm (List.Perm.append_right R p) hsat')
    intro w1 hs1 s1
    show _ ∧ _
    exact ⟨hs1, Γ₀, hq, s1⟩
  | exit id => exact hk.elim
  | goto l => exact hk.elim
  | outgrown => exact hk.elim
section
variable {P : Program} {n : Nat} {T : Tm} {Γ Δ F : List HP} {Q : Out → List HP → Prop} {D : List Deferred} {rs : Array ResultVar}
theorem retM {v : Value} (ms : List Nat) (hD : D = ms.map markD) [k : Takes Γ (ms.map markH ++ Δ) F] (hv : RetR P rs n T Δ v) (hq : Q (.ok v) Δ) : kfunM P rs n (wk Q) .ret T D Γ :=
  ⟨ms, Δ ++ F, v, hD, by rw [← List.append_assoc]; exact k.p, fun a w R hr s => hv a w (F ++ R) hr (by rw [← List.append_assoc]; exact s), Δ, F, List.Perm.refl _, hq⟩
theorem endM {v : Value} (ms : List Nat) (hD : D = ms.map markD) [k : Takes Γ (ms.map markH ++ Δ) F] (hv : RetR P rs n T Δ v) (hq : Q (.ok v) Δ) : kfunM P rs n (wk Q) .normal T D Γ :=
  ⟨ms, Δ ++ F, v, hD, by rw [← List.append_assoc]; exact k.p, fun a w R hr s => hv a w (F ++ R) hr (by rw [← List.append_assoc]; exact s), Δ, F, List.Perm.refl _, hq⟩
end

/-! ranges over functions -/
def lrec (fn : FuncId) (tm : Array Value) (ps : Array Tmp) (assign body : Code) (r : Nat) (st : LoopState) (pend : Option Code) : Obj :=
  .loop { state := st, pending := pend, fn, tmps := tm, params := ps, assign, body, defers := r }
abbrev yv (l : Nat) : Value := .func (.yield l) #[] #[]
def RelT (n : Nat) (T : Tm) (tm : Array Value) : Prop := ∀ ds, Rel n T { tmps := tm, defers := ds }
theorem Rel.toT {n : Nat} {T : Tm} {a : Act} (h : Rel n T a) : RelT n T a.tmps := fun _ => ⟨h.size, h.val⟩
theorem Same.alloc (w : World) (o : Obj) : Same w (w.alloc o) := ⟨rfl, rfl, rfl, by rw [World.size_alloc]; omega⟩
theorem sat_alloc {w : World} {o : Obj} {Γ : List HP} (s : sat w Γ) : sat (w.alloc o) (pt w.heap.size o :: Γ) := sat_new s rfl

theorem SC_rangeFunc {P : Program} {n : Nat} {T : Tm} {D : List Deferred} {Γ : List HP} {K : Exit → Tm → List Deferred → List HP → Prop} {g : Operand} {ps : Array Tmp} {assign body : Code} {f : FuncId} {first cap : Array Value}
    (hg : evT T g = some (.func (.func f) first cap))
    (h : ∀ fn l r tm, RelT n T tm → SF P f (first.toList ++ [yv l] ++ cap.toList) (pt l (lrec fn tm ps assign body r .ready none) :: markH r :: Γ) fun e Γ' => match e with
      | .ok _ => ∃ st pend Γ₂, st ≠ .busy ∧ Γ'.Perm (pt l (lrec fn tm ps assign body r st pend) :: Γ₂) ∧ (match pend with
        | none => K .normal T (markD r :: D) Γ₂
        | some c => SC P none n c T (markD r :: D) Γ₂ K)
      | .panics ch => K (.panic ch) [] (markD r :: D) Γ') : SC P none n (.rangeFunc g ps assign body) T D Γ K := by
  intro a w0 w R hs hr hd hsat
  refine wpIn_rangeFunc fun fn hfn => ?_
  have h1 := run_enterLoop_outer (P := P) (w := w) fn a.tmps ps assign body
  have hsF := h fn (w.heap.size + 1) w.heap.size a.tmps hr.toT
  have hEnt := hsF.1 (first ++ #[yv (w.heap.size + 1)] ++ cap)
  have hsat2 : sat ((w.alloc (.deferred (some []))).alloc (lrec fn a.tmps ps assign body w.heap.size .ready none)) (pt (w.heap.size + 1) (lrec fn a.tmps ps assign body w.heap.size .ready none) :: markH w.heap.size :: Γ ++ R) := by
    have s1 := sat_alloc (o := .deferred (some [])) hsat
    have s2 := sat_alloc (o := lrec fn a.tmps ps assign body w.heap.size .ready none) s1
    have e : (w.alloc (.deferred (some []))).heap.size = w.heap.size + 1 := World.size_alloc _ _
    rw [e] at s2
    exact s2
  have hcall := hsF.2 _ R hsat2
  have e2 : (first.toList ++ [yv (w.heap.size + 1)] ++ cap.toList).toArray = first ++ #[yv (w.heap.size + 1)] ++ cap := by simp
  rw [e2] at hcall
  refine ⟨w.heap.size + 1, [markD w.heap.size], _, { target := .fn (.func f) cap, args := first ++ #[yv (w.heap.size + 1)] }, ((w.alloc (.deferred (some []))).alloc (lrec fn a.tmps ps assign body w.heap.size .ready none)), f, first ++ #[yv (w.heap.size + 1)] ++ cap, ((w.alloc (.deferred (some []))).alloc (lrec fn a.tmps ps assign body w.heap.size .ready none)), h1, ?_, fun f' _ => trivial, hEnt _, fun hh => (by cases hh), ?_⟩
  · have ec : a.eval (.const (yv (w.heap.size + 1))) = yv (w.heap.size + 1) := rfl
    simp only [resolve, hr.eval hg, Deferred.ofValue, List.map_toArray, List.map_cons, List.map_nil, ec]
    rfl
  · refine CallsIn.mono hcall ?_
    have hsm : Same w0 ((w.alloc (.deferred (some []))).alloc (lrec fn a.tmps ps assign body w.heap.size .ready none)) := hs.trans ((Same.alloc _ _).trans (Same.alloc _ _))
    rintro e w3 he
    cases e with
    | outgrown => exact he.elim
    | panicked ch =>
      obtain ⟨hs3, Γ', hk, hsat3⟩ := he
      refine ⟨hsm.trans hs3, [], Γ', ?_, Rel.nil hr.size, hsat3⟩
      show K (.panic ch) [] (markD w.heap.size :: a.defers) Γ'
      rw [hd]; exact hk
    | returned v =>
      obtain ⟨hs3, Γ', ⟨st, pend, Γ₂, hst, p, hk⟩, hsat3⟩ := he
      have s4 : sat w3 (pt (w.heap.size + 1) (lrec fn a.tmps ps assign body w.heap.size st pend) :: (Γ₂ ++ R)) := sat_perm (List.Perm.append_right R p) hsat3
      refine ⟨pend, _, run_endLoop (sat_pt s4) hst, ?_⟩
      have hs5 := (hsm.trans hs3).trans (Same.putObj w3 (w.heap.size + 1) (lrec fn a.tmps ps assign body w.heap.size .exhausted pend))
      have s5 := sat_drop (sat_putObj (o' := lrec fn a.tmps ps assign body w.heap.size .exhausted pend) s4)
      have hrel : Rel n T { a with defers := [markD w.heap.size] ++ a.defers } := ⟨hr.size, hr.val⟩
      cases pend with
      | none =>
        refine ⟨hs5, T, Γ₂, ?_, hrel, s5⟩
        show K .normal T (markD w.heap.size :: a.defers) Γ₂
        rw [hd]; exact hk
      | some c =>
        refine hk _ w0 _ R hs5 hrel ?_ s5
        show markD w.heap.size :: a.defers = _
        rw [hd]

def putPs : List Tmp → List Value → Tm → Tm
  | p :: ps, v :: vs, T => putPs ps vs ((p, v) :: T)
  | _, _, T => T
theorem Rel.putPs {n : Nat} : ∀ (ps : List Tmp) (vs : List Value) (T : Tm) (tm : Array Value), RelT n T tm → (ps.all fun p => Nat.blt p n) = true → RelT n (putPs ps vs T) ((ps.zip vs).foldl (fun tm (p : Tmp × Value) => tm.setIfInBounds p.1 p.2) tm) := by
  intro ps
  induction ps with
  | nil => intro vs T tm h _; cases vs <;> exact h
  | cons p ps ih =>
    intro vs T tm h hl
    cases vs with
    | nil => exact h
    | cons v vs =>
      simp only [List.all_cons, Bool.and_eq_true] at hl
      refine ih vs ((p, v) :: T) (tm.setIfInBounds p v) (fun ds => ?_) hl.2
      exact (h ds).put (d := some p) hl.1 v
def kround2 (P : Program) (fn : FuncId) (tm : Array Value) (ps : Array Tmp) (assign body : Code) (r l : Nat) (Q : Out → List HP → Prop) : Exit → Tm → List Deferred → List HP → Prop :=
  fun e _ _ Γ' => ∃ Γ₂, Γ'.Perm (pt l (lrec fn tm ps assign body r .busy none) :: Γ₂) ∧ match e with
    | .normal => Q (.ok (.bool true)) (pt l (lrec fn tm ps assign body r .ready none) :: Γ₂)
    | .ret => Q (.ok (.bool false)) (pt l (lrec fn tm ps assign body r .done (some .ret)) :: Γ₂)
    | .exit id => Q (.ok (.bool false)) (pt l (lrec fn tm ps assign body r .done (some (.exit id))) :: Γ₂)
    | _ => False
def kround1 (P : Program) (n : Nat) (fn : FuncId) (tm : Array Value) (ps : Array Tmp) (assign body : Code) (r l : Nat) (Q : Out → List HP → Prop) : Exit → Tm → List Deferred → List HP → Prop :=
  fun e T D Γ' => e = .normal ∧ D = [] ∧ ∃ Γ₂, Γ'.Perm (pt l (lrec fn tm ps assign body r .ready none) :: Γ₂) ∧
    SC P (some l) n body T [] (pt l (lrec fn tm ps assign body r .busy none) :: Γ₂) (kround2 P fn tm ps assign body r l Q)
/-- A call of yield: a round. -/
theorem SV_yield {P : Program} {n : Nat} {T : Tm} {Γ : List HP} {Q : Out → List HP → Prop} {fn : FuncId} {tm : Array Value} {ps : Array Tmp} {assign body : Code} {r l : Nat} {args : List Value} (hr : RelT n T tm)
    (hlen : args.length = ps.toList.length) (hps : (ps.toList.all fun p => Nat.blt p n) = true)
    (h : SC P (some l) n assign (putPs ps.toList args T) [] (pt l (lrec fn tm ps assign body r .ready none) :: Γ) (kround1 P n fn tm ps assign body r l Q)) :
    SV P (yv l) args (pt l (lrec fn tm ps assign body r .ready none) :: Γ) Q := by
  intro w R hsat
  have h0 := sat_pt hsat
  have e1 : (callSem (yv l) args.toArray).run P w = .ok (.round l fn ((ps.zip args.toArray).foldl (fun tmps (t, a) => tmps.setIfInBounds t a) tm) assign body) w := by
    have := run_yield (P := P) (args := args.toArray) h0 (by simpa using hlen)
    simpa [callSem, Deferred.ofValue, invoke] using this
  rw [e1]
  have hrel := Rel.putPs ps.toList args T tm hr hps
  have e3 : (ps.zip args.toArray).foldl (fun (tmps : Array Value) (x : Tmp × Value) => match x with | (t, a) => tmps.setIfInBounds t a) tm = (ps.toList.zip args).foldl (fun tm (p : Tmp × Value) => tm.setIfInBounds p.1 p.2) tm := by
    rw [← Array.foldl_toList]; simp
  refine roundIn_of_wpIn trivial ?_
  rw [e3]
  refine wpIn_mono (h _ w w R (Same.refl w) (hrel []) rfl hsat) ?_
  rintro e a1 w1 ⟨hs1, T1, Γ1, ⟨he, hD, Γ₂, p, hbody⟩, hr1, hsat1⟩
  subst he
  have s1 : sat w1 (pt l (lrec fn tm ps assign body r .ready none) :: (Γ₂ ++ R)) := sat_perm (List.Perm.append_right R p) hsat1
  refine ⟨_, run_beginRound (sat_pt s1) rfl, ?_⟩
  have s2 := sat_putObj (o' := lrec fn tm ps assign body r .busy none) s1
  refine wpIn_mono (hbody a1 w _ R (hs1.trans (Same.putObj _ _ _)) hr1 hD s2) ?_
  rintro e a2 w2 ⟨hs2, T2, Γ2, ⟨Γ₃, p3, hq⟩, hr2, hsat2⟩
  have s3 : sat w2 (pt l (lrec fn tm ps assign body r .busy none) :: (Γ₃ ++ R)) := sat_perm (List.Perm.append_right R p3) hsat2
  cases e with
  | normal => exact ⟨_, _, run_endRound none (sat_pt s3), hs2.trans (Same.putObj _ _ _), _, hq, sat_putObj s3⟩
  | ret => exact ⟨_, _, run_endRound (some .ret) (sat_pt s3), hs2.trans (Same.putObj _ _ _), _, hq, sat_putObj s3⟩
  | exit id => exact ⟨_, _, run_endRound (some (.exit id)) (sat_pt s3), hs2.trans (Same.putObj _ _ _), _, hq, sat_putObj s3⟩
  | goto t => exact hq.elim
  | panic ch => exact hq.elim
  | outgrown => exact hq.elim
end Go.Proofs.Ytdganbddgobfdaa
