/- The rules for a drawn region's walk; what is appended to a slice of one's own. -/
import Derived.Test.YtdganbddgobfdaaSl9
namespace Go.Proofs.Ytdganbddgobfdaa
section
variable {P : Program} {n : Nat} {ops : Array Oper} {ch ea : List Nat} {Φ : List HP} {D : List Deferred} {K : Exit → Tm → List Deferred → List HP → Prop} {T : Tm} {Δ : List HP} {l : List Nat}
instance {Δ : List HP} {b : Nat} {o : Obj} [k : Reads Δ b o] : Reads (([] : List HP) ++ Δ) b o := ⟨fun w R s => k.h w R s⟩
instance {A : HP} {Γ Δ : List HP} {b : Nat} {o : Obj} [k : Reads (A :: (Γ ++ Δ)) b o] : Reads ((A :: Γ) ++ Δ) b o := ⟨fun w R s => k.h w R s⟩

theorem DR_nil (h : K .normal T D (Φ ++ Δ)) : DR P n ops ch ea Φ D K [] T Δ := h
theorem DR_q {i d : Nat} {o : Oper} {v : Value} (ho : nthO ops.toList i = some o) (hw : wantT ops T o = some true) (hd : o.dst = some d) (hlt : Nat.blt d n = true) (hc : ch.contains i = false)
    (hq : SQ P o T (if ea.contains i then Φ ++ Δ else Φ) v) (h : DR P n ops ch ea Φ D K l ((d, v) :: T) Δ) : DR P n ops ch ea Φ D K (i :: l) T Δ :=
  ⟨o, ho, by rw [hd]; exact hlt, .inl ⟨hc, v, .inr ⟨hw, hq.2⟩, by rw [hd]; exact h⟩⟩
theorem DR_pure {i d : Nat} {o : Oper} {v : Value} (ho : nthO ops.toList i = some o) (hw : wantT ops T o = some true) (hd : o.dst = some d) (hlt : Nat.blt d n = true) (hc : ch.contains i = false)
    (hv : pureVal T o = some v) (h : DR P n ops ch ea Φ D K l ((d, v) :: T) Δ) : DR P n ops ch ea Φ D K (i :: l) T Δ :=
  DR_q ho hw hd hlt hc (SQ_pure hv) h
/-- What looks, ahead of all that turns the world behind it. -/
theorem DR_qe {i d : Nat} {o : Oper} {v : Value} (ho : nthO ops.toList i = some o) (hw : wantT ops T o = some true) (hd : o.dst = some d) (hlt : Nat.blt d n = true) (hc : ch.contains i = false)
    (he : ea.contains i = true) (hq : SQ P o T (Φ ++ Δ) v) (h : DR P n ops ch ea Φ D K l ((d, v) :: T) Δ) : DR P n ops ch ea Φ D K (i :: l) T Δ :=
  DR_q ho hw hd hlt hc (by rw [he]; exact hq) h
/-- What looks at what nothing turns here. -/
theorem DR_qs {i d : Nat} {o : Oper} {v : Value} (ho : nthO ops.toList i = some o) (hw : wantT ops T o = some true) (hd : o.dst = some d) (hlt : Nat.blt d n = true) (hc : ch.contains i = false)
    (hq : ∀ Γ', Γ' = Φ ++ Δ ∨ Γ' = Φ → SQ P o T Γ' v) (h : DR P n ops ch ea Φ D K l ((d, v) :: T) Δ) : DR P n ops ch ea Φ D K (i :: l) T Δ :=
  DR_q ho hw hd hlt hc (by split; exact hq _ (.inl rfl); exact hq _ (.inr rfl)) h
theorem DR_ql {i d : Nat} {o : Oper} {v : Value} (ho : nthO ops.toList i = some o) (hw : wantT ops T o = some true) (hd : o.dst = some d) (hlt : Nat.blt d n = true) (hc : ch.contains i = false)
    (he : ea.contains i = false) (hq : SQ P o T Φ v) (h : DR P n ops ch ea Φ D K l ((d, v) :: T) Δ) : DR P n ops ch ea Φ D K (i :: l) T Δ :=
  DR_q ho hw hd hlt hc (by rw [he]; exact hq) h
theorem DR_skip {i d : Nat} {o : Oper} (ho : nthO ops.toList i = some o) (hw : wantT ops T o = some false) (hd : o.dst = some d) (hlt : Nat.blt d n = true)
    (h : DR P n ops ch ea Φ D K l ((d, undef) :: T) Δ) : DR P n ops ch ea Φ D K (i :: l) T Δ := by
  refine ⟨o, ho, by rw [hd]; exact hlt, ?_⟩
  cases hc : ch.contains i with
  | false => exact .inl ⟨rfl, undef, .inl ⟨hw, rfl⟩, by rw [hd]; exact h⟩
  | true => exact .inr (.inl ⟨rfl, hw, by rw [hd]; exact h⟩)
theorem DR_skipN {i : Nat} {o : Oper} (ho : nthO ops.toList i = some o) (hw : wantT ops T o = some false) (hd : o.dst = none)
    (h : DR P n ops ch ea Φ D K l T Δ) : DR P n ops ch ea Φ D K (i :: l) T Δ := by
  refine ⟨o, ho, by rw [hd]; rfl, ?_⟩
  cases hc : ch.contains i with
  | false => exact .inl ⟨rfl, undef, .inl ⟨hw, rfl⟩, by rw [hd]; exact h⟩
  | true => exact .inr (.inl ⟨rfl, hw, by rw [hd]; exact h⟩)
theorem DR_op {i d : Nat} {o : Oper} {Q : Out → List HP → Prop} (ho : nthO ops.toList i = some o) (hw : wantT ops T o = some true) (hd : o.dst = some d) (hlt : Nat.blt d n = true) (hc : ch.contains i = true)
    (hop : SOp P o T Δ Q) (hv : ∀ v Δ', Q (.ok v) Δ' → DR P n ops ch ea Φ D K l ((d, v) :: T) Δ') (hp : ∀ chn Δ', Q (.panics chn) Δ' → K (.panic chn) [] D (Φ ++ Δ')) :
    DR P n ops ch ea Φ D K (i :: l) T Δ :=
  ⟨o, ho, by rw [hd]; exact hlt, .inr (.inr ⟨hc, hw, Q, hop, fun v Δ' q => by rw [hd]; exact hv v Δ' q, hp⟩)⟩
theorem DR_opN {i : Nat} {o : Oper} {Q : Out → List HP → Prop} (ho : nthO ops.toList i = some o) (hw : wantT ops T o = some true) (hd : o.dst = none) (hc : ch.contains i = true)
    (hop : SOp P o T Δ Q) (hv : ∀ v Δ', Q (.ok v) Δ' → DR P n ops ch ea Φ D K l T Δ') (hp : ∀ chn Δ', Q (.panics chn) Δ' → K (.panic chn) [] D (Φ ++ Δ')) :
    DR P n ops ch ea Φ D K (i :: l) T Δ :=
  ⟨o, ho, by rw [hd]; rfl, .inr (.inr ⟨hc, hw, Q, hop, fun v Δ' q => by rw [hd]; exact hv v Δ' q, hp⟩)⟩
theorem DR_det {i d : Nat} {o : Oper} {v : Value} {Δ₁ : List HP} (ho : nthO ops.toList i = some o) (hw : wantT ops T o = some true) (hd : o.dst = some d) (hlt : Nat.blt d n = true) (hc : ch.contains i = true)
    (hop : SOp P o T Δ (det v Δ₁)) (h : DR P n ops ch ea Φ D K l ((d, v) :: T) Δ₁) : DR P n ops ch ea Φ D K (i :: l) T Δ :=
  DR_op ho hw hd hlt hc hop (fun _ _ ⟨e, g⟩ => by cases e; cases g; exact h) (fun _ _ ⟨e, _⟩ => by cases e)
theorem DR_detN {i : Nat} {o : Oper} {v : Value} {Δ₁ : List HP} (ho : nthO ops.toList i = some o) (hw : wantT ops T o = some true) (hd : o.dst = none) (hc : ch.contains i = true)
    (hop : SOp P o T Δ (det v Δ₁)) (h : DR P n ops ch ea Φ D K l T Δ₁) : DR P n ops ch ea Φ D K (i :: l) T Δ :=
  DR_opN ho hw hd hc hop (fun _ _ ⟨e, g⟩ => by cases e; cases g; exact h) (fun _ _ ⟨e, _⟩ => by cases e)
theorem DR_new {i d : Nat} {o : Oper} {vf : Nat → Value} {Δf : Nat → List HP} (ho : nthO ops.toList i = some o) (hw : wantT ops T o = some true) (hd : o.dst = some d) (hlt : Nat.blt d n = true) (hc : ch.contains i = true)
    (hop : SOp P o T Δ fun e Γ' => ∃ b, e = .ok (vf b) ∧ Γ' = Δf b) (h : ∀ b, DR P n ops ch ea Φ D K l ((d, vf b) :: T) (Δf b)) : DR P n ops ch ea Φ D K (i :: l) T Δ :=
  DR_op ho hw hd hlt hc hop (fun _ _ ⟨b, e, g⟩ => by cases e; cases g; exact h b) (fun _ _ ⟨b, e, _⟩ => by cases e)
theorem DR_call {i d : Nat} {o : Oper} {c : Call} {fx : Operand} {f : FuncId} {first cap : Array Value} {args all : List Value} {Δ₀ F : List HP} {Q : Out → List HP → Prop}
    (ho : nthO ops.toList i = some o) (hw : wantT ops T o = some true) (hd : o.dst = some d) (hlt : Nat.blt d n = true) (hcc : ch.contains i = true) (ho' : o.op = .call c) (hc : c.callee = .value fx)
    (hf : evT T fx = some (.func (.func f) first cap)) (ha : argsT T c.args.toList = some args) (hl : first.toList ++ args ++ cap.toList = all)
    (h : SF P f all Δ₀ Q) [k : Takes Δ Δ₀ F] (hv : ∀ v Δ', Q (.ok v) Δ' → DR P n ops ch ea Φ D K l ((d, v) :: T) (Δ' ++ F))
    (hp : ∀ chn Δ', Q (.panics chn) Δ' → K (.panic chn) [] D (Φ ++ (Δ' ++ F))) : DR P n ops ch ea Φ D K (i :: l) T Δ :=
  DR_op ho hw hd hlt hcc (SOp_call ho' hc hf ha (SV.frame (SV_fn hl h) k.p)) (fun v _ ⟨Δ', q, e⟩ => by cases e; exact hv v Δ' q) (fun chn _ ⟨Δ', q, e⟩ => by cases e; exact hp chn Δ' q)
theorem DR_callD {i d : Nat} {o : Oper} {c : Call} {fx : Operand} {f : FuncId} {first cap : Array Value} {args all : List Value} {Δ₀ Δ₁ F : List HP} {v : Value}
    (ho : nthO ops.toList i = some o) (hw : wantT ops T o = some true) (hd : o.dst = some d) (hlt : Nat.blt d n = true) (hcc : ch.contains i = true) (ho' : o.op = .call c) (hc : c.callee = .value fx)
    (hf : evT T fx = some (.func (.func f) first cap)) (ha : argsT T c.args.toList = some args) (hl : first.toList ++ args ++ cap.toList = all)
    (h : SF P f all Δ₀ (det v Δ₁)) [k : Takes Δ Δ₀ F] (hv : DR P n ops ch ea Φ D K l ((d, v) :: T) (Δ₁ ++ F)) : DR P n ops ch ea Φ D K (i :: l) T Δ :=
  DR_call ho hw hd hlt hcc ho' hc hf ha hl h (fun _ _ ⟨e, g⟩ => by cases e; cases g; exact hv) (fun _ _ ⟨e, _⟩ => by cases e)
theorem DR_callW {i d : Nat} {o : Oper} {c : Call} {fx : Operand} {f : FuncId} {first cap : Array Value} {args all : List Value} {Q : Out → List HP → Prop}
    (ho : nthO ops.toList i = some o) (hw : wantT ops T o = some true) (hd : o.dst = some d) (hlt : Nat.blt d n = true) (hcc : ch.contains i = true) (ho' : o.op = .call c) (hc : c.callee = .value fx)
    (hf : evT T fx = some (.func (.func f) first cap)) (ha : argsT T c.args.toList = some args) (hl : first.toList ++ args ++ cap.toList = all)
    (h : SF P f all Δ Q) (hv : ∀ v Δ', Q (.ok v) Δ' → DR P n ops ch ea Φ D K l ((d, v) :: T) Δ')
    (hp : ∀ chn Δ', Q (.panics chn) Δ' → K (.panic chn) [] D (Φ ++ Δ')) : DR P n ops ch ea Φ D K (i :: l) T Δ :=
  DR_op ho hw hd hlt hcc (SOp_call ho' hc hf ha (SV_fn hl h)) hv hp
theorem DR_callWD {i d : Nat} {o : Oper} {c : Call} {fx : Operand} {f : FuncId} {first cap : Array Value} {args all : List Value} {v : Value} {Δ₁ : List HP}
    (ho : nthO ops.toList i = some o) (hw : wantT ops T o = some true) (hd : o.dst = some d) (hlt : Nat.blt d n = true) (hcc : ch.contains i = true) (ho' : o.op = .call c) (hc : c.callee = .value fx)
    (hf : evT T fx = some (.func (.func f) first cap)) (ha : argsT T c.args.toList = some args) (hl : first.toList ++ args ++ cap.toList = all)
    (h : SF P f all Δ (det v Δ₁)) (hv : DR P n ops ch ea Φ D K l ((d, v) :: T) Δ₁) : DR P n ops ch ea Φ D K (i :: l) T Δ :=
  DR_callW ho hw hd hlt hcc ho' hc hf ha hl h (fun _ _ ⟨e, g⟩ => by cases e; cases g; exact hv) (fun _ _ ⟨e, _⟩ => by cases e)
theorem DR_callVW {i d : Nat} {o : Oper} {c : Call} {fx : Operand} {fv : Value} {args : List Value} {Q : Out → List HP → Prop} (ho : nthO ops.toList i = some o)
    (hw : wantT ops T o = some true) (hd : o.dst = some d) (hlt : Nat.blt d n = true) (hcc : ch.contains i = true) (ho' : o.op = .call c) (hc : c.callee = .value fx) (hf : evT T fx = some fv) (ha : argsT T c.args.toList = some args)
    (h : SV P fv args Δ Q) (hv : ∀ v Δ', Q (.ok v) Δ' → DR P n ops ch ea Φ D K l ((d, v) :: T) Δ') (hp : ∀ chn Δ', Q (.panics chn) Δ' → K (.panic chn) [] D (Φ ++ Δ')) :
    DR P n ops ch ea Φ D K (i :: l) T Δ :=
  DR_op ho hw hd hlt hcc (SOp_call ho' hc hf ha h) hv hp
theorem DR_cases {b : Bool} (ht : b = true → DR P n ops ch ea Φ D K l T Δ) (hf : b = false → DR P n ops ch ea Φ D K l T Δ) : DR P n ops ch ea Φ D K l T Δ := by
  cases hb : b with
  | true => exact ht hb
  | false => exact hf hb
end

/-! slices of one's own -/
/-- v: a slice of m elements, whose cells are L, in a block that nobody else has; nil, if there is none. -/
def ownS (el : TypeId) (sz : Nat) (v : Value) (m : Nat) (L : List Value) : HP :=
  ex fun (q : Option (Nat × Nat × List Value)) => match q with
    | none => pur (v = .slice none 0 0 ∧ m = 0 ∧ L = [])
    | some (b, cap, sp) => grp [pur (v = .slice (some ⟨b, 0, none⟩) m cap ∧ L.length = m * sz ∧ L.length + sp.length = cap * sz), pt b (.cells (L ++ sp).toArray el (0, 0))]
theorem sat_ownS_nil {w : World} {el : TypeId} {sz : Nat} {Γ : List HP} (h : sat w Γ) : sat w (ownS el sz (.slice none 0 0) 0 [] :: Γ) :=
  sat_ex.2 ⟨none, sat_pur.2 ⟨⟨rfl, rfl, rfl⟩, h⟩⟩
theorem sat_ownS_some {w : World} {el b m cap sz : Nat} {L sp : List Value} {Γ : List HP} (h1 : L.length = m * sz) (h2 : L.length + sp.length = cap * sz)
    (h : sat w (pt b (.cells (L ++ sp).toArray el (0, 0)) :: Γ)) : sat w (ownS el sz (.slice (some ⟨b, 0, none⟩) m cap) m L :: Γ) :=
  sat_ex.2 ⟨some (b, cap, sp), sat_grp.2 (sat_pur.2 ⟨⟨rfl, h1, h2⟩, h⟩)⟩
theorem sat_ownS {w : World} {el sz m : Nat} {v : Value} {L : List Value} {Γ : List HP} (h : sat w (ownS el sz v m L :: Γ)) :
    (v = .slice none 0 0 ∧ m = 0 ∧ L = [] ∧ sat w Γ) ∨
    ∃ b cap sp, v = .slice (some ⟨b, 0, none⟩) m cap ∧ L.length = m * sz ∧ L.length + sp.length = cap * sz ∧ sat w (pt b (.cells (L ++ sp).toArray el (0, 0)) :: Γ) := by
  obtain ⟨q, hq⟩ := sat_ex.1 h
  cases q with
  | none =>
    obtain ⟨⟨h1, h2, h3⟩, h4⟩ := sat_pur.1 hq
    exact .inl ⟨h1, h2, h3, h4⟩
  | some q =>
    obtain ⟨b, cap, sp⟩ := q
    obtain ⟨⟨h1, h2, h3⟩, h4⟩ := sat_pur.1 (sat_grp.1 hq)
    exact .inr ⟨b, cap, sp, h1, h2, h3, h4⟩
theorem growBy_le (need : Nat) : ∀ (r c : Nat), c ≤ 2 * need + 512 → Builtin.growBy need r c ≤ 2 * need + 512 := by
  intro r
  induction r with
  | zero => intro c h; exact h
  | succ r ih =>
    intro c h
    simp only [Builtin.growBy]
    split
    · exact h
    · exact ih _ (by omega)
theorem nextcap_le (need old : Nat) (h : old < need) : Builtin.nextslicecap need old ≤ 2 * need + 512 := by
  unfold Builtin.nextslicecap
  split
  · omega
  · split
    · omega
    · exact growBy_le need 4 old (by omega)
def isSS : TypeDesc → Bool
  | .slice _ => true
  | .string => true
  | _ => false
theorem isSS_or {d : TypeDesc} (h : isSS d = true) : (∃ e, d = .slice e) ∨ d = .string := by
  cases d <;> first | exact .inl ⟨_, rfl⟩ | exact .inr rfl | cases h
def lenU : Value → Option Nat
  | .slice _ n _ => some n
  | .string s => some s.size
  | _ => none
theorem zeroCells_length (zc : Array Value) (n : Nat) : (Builtin.zeroCells zc n).toList.length = n * zc.size := by
  simp [Builtin.zeroCells]
theorem setc_append : ∀ (X L sp : List Value), X.length ≤ sp.length → setc (L ++ sp) L.length X = L ++ X ++ sp.drop X.length := by
  intro X
  induction X with
  | nil => intro L sp _; simp [setc]
  | cons x X ih =>
    intro L sp h
    cases sp with
    | nil => simp at h
    | cons s sp =>
      simp only [setc]
      have e : (L ++ s :: sp).set L.length x = (L ++ [x]) ++ sp := by simp
      rw [e, show L.length + 1 = (L ++ [x]).length from by simp, ih (L ++ [x]) sp (by simpa using h)]
      simp

section
variable {P : Program} {o : Oper} {T : Tm} {Γ : List HP} {t t' : TypeId} {d d2 : TypeDesc} {sz bs sz2 bs2 : Nat} {z z2 : Value} {x y : Operand}
set_option maxRecDepth 4000 in
theorem SOp_append {el : TypeId} {v u : Value} {n m : Nat} {L X : List Value} {Γ' : List HP} (ho : o.op = .call { callee := .builtin .append, args := #[x, y], argTypes := #[t, t'] }) [k : SLC P t el sz] [ke : TOK P el d sz bs z]
    [k2 : TOK P t' d2 sz2 bs2 z2] (hd2 : isSS d2 = true) (hx : evT T x = some v) (hy : evT T y = some u) [kp : Pick Γ (ownS el sz v n L) Γ'] (hzs : z.cells.toList.length = sz) (hu : lenU u = some m)
    (hX : ∀ w R, sat w (Γ ++ R) → (Builtin.firstCells sz m u).run P w = .ok X.toArray w) (hXl : X.length = m * sz) (hXp : ∀ e ∈ X, plainV e = true) (hb : n + m ≤ 1099511627776) (hbs : bs ≤ 64) (hbs0 : 0 < bs) :
    SOp P o T Γ fun e Γ'' => ∃ a' cap', e = .ok (.slice a' (n + m) cap') ∧ Γ'' = ownS el sz (.slice a' (n + m) cap') (n + m) (L ++ X) :: Γ' := by
  refine ⟨(by rw [ho]; intro c h; cases h), fun nn a w R hr hsat => ?_⟩
  have hX' := hX w R hsat
  have hsat2 : sat w (ownS el sz v n L :: (Γ' ++ R)) := sat_perm (List.Perm.append_right R kp.p) hsat
  obtain ⟨i, hi1, hi2, hi3⟩ := ke.run_bytes w
  have hlen : (Builtin.lenOf u).run P w = .ok m w := by
    unfold lenU at hu
    split at hu <;> cases hu <;> rfl
  -- the slice as it stands
  obtain ⟨base, cap, hv, hbase⟩ : ∃ base cap, v = .slice base n cap ∧ ((base = none ∧ cap = 0 ∧ n = 0 ∧ L = [] ∧ sat w (Γ' ++ R)) ∨
      ∃ b sp, base = some ⟨b, 0, none⟩ ∧ L.length = n * sz ∧ L.length + sp.length = cap * sz ∧ sat w (pt b (.cells (L ++ sp).toArray el (0, 0)) :: (Γ' ++ R))) := by
    rcases sat_ownS hsat2 with ⟨h1, h2, h3, h4⟩ | ⟨b, cap, sp, h1, h2, h3, h4⟩
    · subst h2; exact ⟨none, 0, h1, .inl ⟨rfl, rfl, rfl, h3, h4⟩⟩
    · exact ⟨some ⟨b, 0, none⟩, cap, h1, .inr ⟨b, sp, rfl, h2, h3, h4⟩⟩
  have hexec : execOp a.eval o = (do pure (.value (← Builtin.append_ #[t, t'] o.type #[v, u]))) := by
    simp only [execOp, ho, resolve, invoke, pure_bind, builtin, List.map_toArray, List.map_cons, List.map_nil, hr.eval hx, hr.eval hy]
  rw [hexec, Sem.run_bind]
  by_cases hfit : n + m ≤ cap
  · -- there is room
    rcases hbase with ⟨rfl, rfl, rfl, rfl, hs⟩ | ⟨b, sp, rfl, hL, hsp, hs⟩
    · have hm0 : m = 0 := by omega
      subst hm0
      have hX0 : X = [] := List.eq_nil_of_length_eq_zero (by rw [hXl]; simp)
      subst hX0
      have hrun : (Builtin.append_ #[t, t'] o.type #[v, u]).run P w = .ok (.slice none 0 0) w := by
        subst hv
        rcases isSS_or hd2 with ⟨e2, rfl⟩ | rfl <;> simp [Builtin.append_, run_und' k.und, k2.run_und, run_size' k.size, hlen, hX']
      rw [hrun]
      exact ⟨Same.refl w, _, ⟨_, _, rfl, rfl⟩, sat_ownS_nil hs⟩
    · have hbk := sat_pt hs
      have hmul : (n + m) * sz ≤ cap * sz := Nat.mul_le_mul_right sz hfit
      rw [Nat.add_mul] at hmul
      obtain ⟨w', hst, hsm, hb1, hb2⟩ := run_storeCells (P := P) X w (n * sz) 0 _ hbk (by simp [hL]; omega) (fun j h1 h2 => by simp) hXp
      have hrun : (Builtin.append_ #[t, t'] o.type #[v, u]).run P w = .ok (.slice (some ⟨b, 0, none⟩) (n + m) cap) w' := by
        subst hv
        rcases isSS_or hd2 with ⟨e2, rfl⟩ | rfl <;> simp [Builtin.append_, run_und' k.und, k2.run_und, run_size' k.size, hlen, hX', hfit, addr_add, hst]
      rw [hrun]
      refine ⟨hsm, _, ⟨_, _, rfl, rfl⟩, ?_⟩
      have e : setc (L ++ sp) (n * sz + 0) X = L ++ X ++ sp.drop X.length := by
        rw [Nat.add_zero, ← hL]; exact setc_append X L sp (by omega)
      have e2 : ((L ++ sp).toArray).toList = L ++ sp := rfl
      rw [e2, e] at hb1
      exact sat_ownS_some (by simp [hL, hXl, Nat.add_mul]) (by simp [hL, hXl]; omega) (sat_set hs hb1 hb2)
  · -- it grows
    have hlt : cap < n + m := by omega
    have hcapb : ¬ (Builtin.nextslicecap (n + m) cap * i.bytes > 2 ^ 48) := by
      have h1 := nextcap_le (n + m) cap hlt
      rw [hi2]
      have h2 : Builtin.nextslicecap (n + m) cap * bs ≤ (2 * (n + m) + 512) * 64 := Nat.mul_le_mul h1 hbs
      omega
    have hcapb2 : Builtin.nextslicecap (n + m) cap * i.bytes ≤ 2 ^ 48 := by omega
    have hold : (Builtin.firstCells sz n v).run P w = .ok L.toArray w := by
      subst hv
      rcases hbase with ⟨rfl, rfl, rfl, rfl, hs⟩ | ⟨b, sp, rfl, hL, hsp, hs⟩
      · rfl
      · have := run_loadCells (P := P) (n := n * sz) (off := 0) (sat_pt hs) (by simp [hL])
        simp only [Builtin.firstCells, this]
        simp [← hL]
    have hs : sat w (Γ' ++ R) := by
      rcases hbase with ⟨_, _, _, _, hs⟩ | ⟨b, sp, _, _, _, hs⟩
      · exact hs
      · exact sat_drop hs
    obtain ⟨nc, w1, hch, hnc, hw1h, hw1⟩ : ∃ nc w1, (choose (.appendCap (n + m) cap el)).run P w = .ok nc w1 ∧ n + m ≤ nc ∧ w1.heap = w.heap ∧ Same w w1 := by
      refine ⟨_, _, rfl, ?_, rfl, ⟨rfl, rfl, rfl, Nat.le_refl _⟩⟩
      simp only [Question.cut]; omega
    have hold1 : (Builtin.firstCells sz n v).run P w1 = .ok L.toArray w1 := by
      subst hv
      rcases hbase with ⟨rfl, rfl, rfl, rfl, hs⟩ | ⟨b, sp, rfl, hL, hsp, hs⟩
      · rfl
      · have := run_loadCells (P := P) (w := w1) (n := n * sz) (off := 0) (by rw [hw1h]; exact sat_pt hs) (by simp [hL])
        simp only [Builtin.firstCells, this]
        simp [← hL]
    obtain ⟨i1, hj1, hj2, hj3⟩ := ke.run_bytes w1
    have hX1 : (Builtin.firstCells sz m u).run P w1 = .ok X.toArray w1 := hX w1 R (sat_heap hw1h hsat)
    have hLl : L.length = n * sz := by
      rcases hbase with ⟨_, _, rfl, rfl, _⟩ | ⟨b, sp, _, hL, _, _⟩
      · simp
      · exact hL
    have hrun : (Builtin.append_ #[t, t'] o.type #[v, u]).run P w = .ok (.slice (some ⟨w1.heap.size, 0, none⟩) (n + m) nc)
        { w1 with heap := w1.heap.push (.cells (L.toArray ++ X.toArray ++ Builtin.zeroCells z.cells (nc - (n + m))) el) } := by
      subst hv
      have hbig : ¬ (IntKind.i64.max < ((n + m : Nat) : Int) ∧ i.bytes = 0) := by rw [hi2]; omega
      have hz1 : (zeroValue el).run P w1 = .ok z w1 := ke.run_zero w1
      rcases isSS_or hd2 with ⟨e2, rfl⟩ | rfl
      all_goals
        simp only [Builtin.append_, List.getElem?_toArray, List.getElem?_cons_zero, List.getElem?_cons_succ, Sem.run_bind, run_und' k.und, k2.run_und, Result.andThen_ok, run_size' k.size, Sem.run_pure,
          hlen, Bool.false_eq_true, if_false, Bool.not_false, if_true, if_neg hfit, hi1, false_or]
        rw [if_neg (by simpa using hbig)]
        simp only [Sem.run_bind, hi1, Result.andThen_ok, if_neg hcapb, hch, hj1, run_askRoom, hold1, hX1, hz1, Sem.run_pure]
        simp [newRow, newObj, Sem.run]
    rw [hrun]
    refine ⟨Same.trans hw1 ⟨rfl, rfl, rfl, by simp⟩, _, ⟨_, _, rfl, rfl⟩, ?_⟩
    refine sat_ownS_some (sp := (Builtin.zeroCells z.cells (nc - (n + m))).toList) (by simp [hLl, hXl, Nat.add_mul]) ?_ (sat_new (w := w1) (sat_heap hw1h hs) ?_)
    · rw [zeroCells_length, ← Array.length_toList, hzs]
      simp only [List.length_append, hLl, hXl]
      rw [← Nat.add_mul, ← Nat.add_mul]
      congr 1; omega
    · simp only
      congr 2
      apply Array.ext'
      simp
end
end Go.Proofs.Ytdganbddgobfdaa
