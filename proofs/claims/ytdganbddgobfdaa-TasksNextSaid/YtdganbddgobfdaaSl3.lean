/- The rules for scopes and labels; for the steps of an operation's answer; for operations that only reckon. -/
import Derived.Test.YtdganbddgobfdaaSl2
namespace Go.Proofs.Ytdganbddgobfdaa

/-! scopes, labels -/
theorem stepR_scope {P : Program} {b : Frame} {a : Act} {k : List Item} {cs : List Frame} {w : World} {c : Code} :
    step P (lone (b.atR a (.code (.scope c) :: k)) cs w) = .next (lone (b.atR a (.code c :: .inScope c :: k)) cs w) :=
  step_lone_go (by simp [stepG, stepG.exec, Frame.atR])
theorem stepR_inScope {P : Program} {b : Frame} {a : Act} {k : List Item} {cs : List Frame} {w : World} {c : Code} :
    step P (lone (b.atR a (.inScope c :: k)) cs w) = .next (lone (b.atR a k) cs w) :=
  step_lone_go (by simp [stepG, stepG.exec, Frame.atR])
theorem wpIn_scope {F : Fence} {n : Nat} {P : Program} {Q : Exit → Act → World → Prop} {a : Act} {w : World} {c : Code}
    (h : c.wpIn F n P (fun e a w => Q e a w ∧ ∀ l, e ≠ .goto l) a w) : (Code.scope c).wpIn F n P Q a w := by
  intro b k cs hro hb hr
  have h0 : (lone (b.atR a (.code (.scope c) :: k)) cs w).fenced P F := fenced_calm hb hr rfl
  obtain ⟨e, a₁, w₁, ⟨hq, hg⟩, harr⟩ := h b (.inScope c :: k) cs hro hb hr
  cases e with
  | normal => exact ⟨.normal, a₁, w₁, hq, .head h0 stepR_scope (StepsIn.trans harr (.one (fenced_calm hb hr rfl) stepR_inScope))⟩
  | exit id =>
    have hx : exitTo id (.inScope c :: k) = exitTo id k := by simp [exitTo]
    exact ⟨_, a₁, w₁, hq, fun k' hk => .head h0 stepR_scope (harr.1 k' (by rw [hx]; exact hk)),
      fun hr' hk => let ⟨k₁, h1, h2⟩ := harr.2 hr' (by rw [hx]; exact hk); ⟨k₁, h1, .head h0 stepR_scope h2⟩⟩
  | goto l => exact absurd rfl (hg l)
  | ret => exact ⟨_, a₁, w₁, hq, .of_steps (.one h0 stepR_scope) harr⟩
  | panic ch => exact ⟨_, a₁, w₁, hq, .of_steps (.one h0 stepR_scope) harr⟩
  | outgrown => exact ⟨_, a₁, w₁, hq, .of_steps (.one h0 stepR_scope) harr⟩
def kscope (K : Exit → Tm → List Deferred → List HP → Prop) : Exit → Tm → List Deferred → List HP → Prop
  | .goto _, _, _, _ => False
  | e, T, D, Γ => K e T D Γ
section
variable {P : Program} {r : Option Nat} {n : Nat} {ops : Array Oper} {T : Tm} {D : List Deferred} {Γ : List HP} {K : Exit → Tm → List Deferred → List HP → Prop}
theorem SC_scope {c : Code} (h : SC P r n c T D Γ (kscope K)) : SC P r n (.scope c) T D Γ K := by
  intro a w0 w R hs hr hd hsat
  refine wpIn_scope (wpIn_mono (h a w0 w R hs hr hd hsat) ?_)
  rintro e a' w' ⟨hs', T', Γ', k, hr', hsat'⟩
  cases e with
  | goto l => exact k.elim
  | _ => exact ⟨⟨hs', T', Γ', k, hr', hsat'⟩, fun l h => by cases h⟩
theorem SC_label {l : Nat} (h : K .normal T D Γ) : SC P r n (.label l) T D Γ K :=
  fun _ _ _ _ hs hr hd hsat => wpIn_label ⟨hs, T, Γ, hd ▸ h, hr, hsat⟩
/-- A test in the middle of a region: both ways. -/
theorem SOps_cases {l : List Nat} {d : Nat} {b : Bool} (h : tget T d = some (.bool b)) (ht : b = true → SOps P r n ops l ((d, .bool true) :: T) D Γ K)
    (hf : b = false → SOps P r n ops l ((d, .bool false) :: T) D Γ K) : SOps P r n ops l T D Γ K := by
  intro a w0 w R hs hr hd hsat
  cases hb : b with
  | true =>
    refine ht hb a w0 w R hs ⟨hr.size, fun t v e => ?_⟩ hd hsat
    simp only [tget] at e
    split at e
    · rename_i hbeq; cases Nat.eq_of_beq_eq_true hbeq; cases e; rw [← hb]; exact hr.val d _ h
    · exact hr.val t v e
  | false =>
    refine hf hb a w0 w R hs ⟨hr.size, fun t v e => ?_⟩ hd hsat
    simp only [tget] at e
    split at e
    · rename_i hbeq; cases Nat.eq_of_beq_eq_true hbeq; cases e; rw [← hb]; exact hr.val d _ h
    · exact hr.val t v e
theorem SOps_if {l : List Nat} (d : Nat) {p : Prop} [Decidable p] (h : tget T d = some (.bool (decide p))) (ht : p → SOps P r n ops l ((d, .bool true) :: T) D Γ K)
    (hf : ¬ p → SOps P r n ops l ((d, .bool false) :: T) D Γ K) : SOps P r n ops l T D Γ K :=
  SOps_cases h (fun e => ht (of_decide_eq_true e)) (fun e => hf (of_decide_eq_false e))
theorem SOps_sub {l : List Nat} {S : Tm} (h : SOps P r n ops l S D Γ K) (s : Sub S T) : SOps P r n ops l T D Γ K :=
  fun a w0 w R hs hr hd hsat => h a w0 w R hs (hr.sub s) hd hsat
theorem SOps_weak {l : List Nat} {Δ : List HP} (p : ∀ w R, sat w (Γ ++ R) → sat w (Δ ++ R)) (h : SOps P r n ops l T D Δ K) : SOps P r n ops l T D Γ K :=
  fun a w0 w R hs hr hd hsat => h a w0 w R hs hr hd (p w R hsat)
theorem SOps_fact {l : List Nat} {φ : Prop} (p : ∀ w R, sat w (Γ ++ R) → φ) (h : φ → SOps P r n ops l T D Γ K) : SOps P r n ops l T D Γ K :=
  fun a w0 w R hs hr hd hsat => h (p w R hsat) a w0 w R hs hr hd hsat
theorem SOps_ex {l : List Nat} {α : Type} {F : α → HP} (h : ∀ x, SOps P r n ops l T D (F x :: Γ) K) : SOps P r n ops l T D (ex F :: Γ) K :=
  fun a w0 w R hs hr hd hsat => by
    obtain ⟨x, hx⟩ := sat_ex.1 (show sat w (ex F :: (Γ ++ R)) from hsat)
    exact h x a w0 w R hs hr hd hx
theorem SOps_pur {l : List Nat} {φ : Prop} (h : φ → SOps P r n ops l T D Γ K) : SOps P r n ops l T D (pur φ :: Γ) K :=
  fun a w0 w R hs hr hd hsat => by
    obtain ⟨x, hx⟩ := sat_pur.1 (show sat w (pur φ :: (Γ ++ R)) from hsat)
    exact h x a w0 w R hs hr hd hx
theorem SOps_grp {l : List Nat} {Δ : List HP} (h : SOps P r n ops l T D (Δ ++ Γ) K) : SOps P r n ops l T D (grp Δ :: Γ) K :=
  fun a w0 w R hs hr hd hsat => h a w0 w R hs hr hd (by
    have := sat_grp.1 (show sat w (grp Δ :: (Γ ++ R)) from hsat)
    rwa [List.append_assoc])
end

/-! the steps of an operation's answer -/
inductive SOut (α : Type) where
  | ok (x : α)
  | panic (v : Value)
def resP {α : Type} (C : SOut α → World → Prop) : Result α → Prop
  | .ok x w' => C (.ok x) w'
  | .halt (.panic v) w' => C (.panic v) w'
  | _ => False
def spost {α : Type} (w : World) (R : List HP) (Q : SOut α → List HP → Prop) : SOut α → World → Prop :=
  fun e w' => Same w w' ∧ ∃ Γ', Q e Γ' ∧ sat w' (Γ' ++ R)
def SR {α : Type} (P : Program) (s : Sem α) (Γ : List HP) (Q : SOut α → List HP → Prop) : Prop :=
  ∀ w R, sat w (Γ ++ R) → resP (spost w R Q) (s.run P w)
def sthen {α β : Type} (P : Program) (f : α → Sem β) (Q : SOut β → List HP → Prop) : SOut α → List HP → Prop
  | .ok x, Γ => SR P (f x) Γ Q
  | .panic v, Γ => Q (.panic v) Γ
theorem resP_mono {α : Type} {C C' : SOut α → World → Prop} (hc : ∀ e w, C e w → C' e w) : ∀ r, resP C r → resP C' r
  | .ok _ _, h => hc _ _ h
  | .halt (.panic _) _, h => hc _ _ h
  | .halt .blocked _, h | .halt .waiting _, h | .halt (.exit _) _, h | .halt (.fatal _) _, h | .halt (.throw _) _, h | .halt .goexit _, h | .halt (.unsupported _) _, h | .halt (.stuck _) _, h => h.elim
section
variable {α β : Type} {P : Program} {Γ : List HP}
theorem SR_mono {s : Sem α} {Q Q' : SOut α → List HP → Prop} (h : SR P s Γ Q) (hq : ∀ e Γ', Q e Γ' → Q' e Γ') : SR P s Γ Q' :=
  fun w R hsat => resP_mono (fun _ _ ⟨s, Γ', q, k⟩ => ⟨s, Γ', hq _ _ q, k⟩) _ (h w R hsat)
theorem SR_bind {s : Sem α} {f : α → Sem β} {Q : SOut β → List HP → Prop} (h : SR P s Γ (sthen P f Q)) : SR P (s >>= f) Γ Q := by
  intro w R hsat
  have h1 := h w R hsat
  rw [Sem.run_bind]
  cases hr : s.run P w with
  | ok x w' =>
    rw [hr] at h1
    obtain ⟨hs, Γ', k, hsat'⟩ := h1
    exact resP_mono (fun _ _ ⟨s, Γ'', q, k⟩ => ⟨hs.trans s, Γ'', q, k⟩) _ (k w' R hsat')
  | halt e w' =>
    rw [hr] at h1
    cases e with
    | panic v => obtain ⟨hs, Γ', k, hsat'⟩ := h1; exact ⟨hs, Γ', k, hsat'⟩
    | _ => exact h1.elim
theorem SR_pure {x : α} {Q : SOut α → List HP → Prop} (h : Q (.ok x) Γ) : SR P (pure x) Γ Q := fun w _ hsat => ⟨Same.refl w, Γ, h, hsat⟩
/-- What is known to run so, whatever the world. -/
theorem SR_run {s : Sem α} {x : α} {Q : SOut α → List HP → Prop} (h : ∀ w R, sat w (Γ ++ R) → s.run P w = .ok x w) (hq : Q (.ok x) Γ) : SR P s Γ Q := fun w R hsat => by
  rw [h w R hsat]; exact ⟨Same.refl w, Γ, hq, hsat⟩
theorem SR_goPanic {v : Value} {Q : SOut α → List HP → Prop} (h : Q (.panic v) Γ) : SR P (goPanic v : Sem α) Γ Q := fun w _ hsat => ⟨Same.refl w, Γ, h, hsat⟩
theorem SR_choose {q : Question} {Q : SOut Nat → List HP → Prop} (h : ∀ t, Q (.ok (q.cut t)) Γ) (hf : q.forced = true → Q (.ok 0) Γ) : SR P (choose q) Γ Q := by
  intro w R hsat
  simp only [choose, Sem.run]
  split
  · rename_i hq; exact ⟨Same.refl w, Γ, hf hq, hsat⟩
  · exact ⟨⟨rfl, rfl, rfl, Nat.le_refl _⟩, Γ, h _, sat_heap rfl hsat⟩
theorem SR_new {o : Obj} {Q : SOut Nat → List HP → Prop} (h : ∀ b, Q (.ok b) (pt b o :: Γ)) : SR P (newObj o) Γ Q := by
  intro w R hsat
  exact ⟨⟨rfl, rfl, rfl, by simp⟩, _, h w.heap.size, sat_new hsat rfl⟩
end

/-! what a list lets one read, and turn -/
class Reads (Γ : List HP) (b : Nat) (o : outParam Obj) : Prop where
  h : ∀ w R, sat w (Γ ++ R) → w.heap[b]? = some o
class Holds (H : Nat → Option Obj) (b : Nat) (o : outParam Obj) : Prop where
  h : H b = some o
instance Reads.pt {b : Nat} {o : Obj} {Γ : List HP} : Reads (pt b o :: Γ) b o := ⟨fun _ _ s => sat_pt s⟩
instance Reads.ro {b : Nat} {o : Obj} {Γ : List HP} : Reads (ro b o :: Γ) b o := ⟨fun _ _ s => sat_ro s⟩
instance (priority := low) Reads.base {b : Nat} {o : Obj} {H : Nat → Option Obj} {Γ : List HP} [k : Holds H b o] : Reads (base H :: Γ) b o := ⟨fun _ _ s => sat_base s b o k.h⟩
instance (priority := low) Reads.later {b : Nat} {o : Obj} {A : HP} {Γ : List HP} [k : Reads Γ b o] : Reads (A :: Γ) b o := ⟨fun w R s => k.h w R (sat_drop s)⟩
/-- mk A: the list with A in the place of the block b's. -/
class Upd (Γ : List HP) (b : Nat) (o : outParam Obj) (mk : outParam (HP → List HP)) : Prop where
  get : ∀ w R, sat w (Γ ++ R) → w.heap[b]? = some o
  set : ∀ w R, sat w (Γ ++ R) → ∀ w' o', w'.heap[b]? = some o' → (∀ c, c ≠ b → w'.heap[c]? = w.heap[c]?) → sat w' (mk (Go.Proofs.Ytdganbddgobfdaa.pt b o') ++ R)
  re : ∀ o' w R, sat w (mk (Go.Proofs.Ytdganbddgobfdaa.pt b o') ++ R) → w.heap[b]? = some o' ∧ ∀ w' o'', w'.heap[b]? = some o'' → (∀ c, c ≠ b → w'.heap[c]? = w.heap[c]?) → sat w' (mk (Go.Proofs.Ytdganbddgobfdaa.pt b o'') ++ R)
instance Upd.here {b : Nat} {o : Obj} {Γ : List HP} : Upd (Go.Proofs.Ytdganbddgobfdaa.pt b o :: Γ) b o (fun A => A :: Γ) := ⟨fun _ _ s => sat_pt s, fun _ _ s _ _ h1 h2 => sat_set s h1 h2, fun _ _ _ s => ⟨sat_pt s, fun _ _ h1 h2 => sat_set s h1 h2⟩⟩
theorem sat_swap {w : World} {A : HP} {Γ : List HP} {R : List HP} : sat w (A :: (Γ ++ R)) → sat w (Γ ++ (A :: R)) :=
  sat_perm List.perm_middle.symm
instance (priority := low) Upd.later {b : Nat} {o : Obj} {A : HP} {Γ : List HP} {mk : HP → List HP} [k : Upd Γ b o mk] : Upd (A :: Γ) b o (fun B => A :: mk B) :=
  ⟨fun w R s => k.get w R (sat_drop s), fun w R s w' o' h1 h2 => sat_perm List.perm_middle (k.set w (A :: R) (sat_swap s) w' o' h1 h2),
    fun o' w R s => ⟨(k.re o' w (A :: R) (sat_swap s)).1, fun w' o'' h1 h2 => sat_perm List.perm_middle ((k.re o' w (A :: R) (sat_swap s)).2 w' o'' h1 h2)⟩⟩
theorem Upd.again {b : Nat} {o o' : Obj} {Γ : List HP} {mk : HP → List HP} (k : Upd Γ b o mk) : Upd (mk (Go.Proofs.Ytdganbddgobfdaa.pt b o')) b o' mk := ⟨fun w R s => (k.re o' w R s).1, fun w R s w' o'' h1 h2 => (k.re o' w R s).2 w' o'' h1 h2, k.re⟩
instance (priority := 1) Reads.ofUpd {Γ : List HP} {b : Nat} {o : Obj} {mk : HP → List HP} [k : Upd Γ b o mk] : Reads Γ b o := ⟨k.get⟩

theorem cell_of {w : World} {b off : Nat} {c : Array Value} {t : TypeId} {f : Nat × Nat} (h : w.heap[b]? = some (.cells c t f)) : w.cell? ⟨b, off, none⟩ = c[off]? := by
  simp [World.cell?, h]
def plainV : Value → Bool
  | .agg _ => false
  | .tuple _ => false
  | _ => true
section
variable {P : Program} {Γ : List HP}
theorem SR_load {m : Mode} {b off : Nat} {c : Array Value} {t : TypeId} {f : Nat × Nat} {v : Value} {Q : SOut Value → List HP → Prop} (k : ∀ w R, sat w (Γ ++ R) → w.heap[b]? = some (.cells c t f))
    (hv : c[off]? = some v) (h : Q (.ok v) Γ) : SR P (load ⟨b, off, none⟩ m) Γ Q := by
  intro w R hsat
  have hc := cell_of (off := off) (k w R hsat)
  rw [hv] at hc
  simp only [load, Sem.run, hc]
  exact ⟨Same.refl w, Γ, h, hsat⟩
theorem SR_store {m : Mode} {b off : Nat} {c : Array Value} {t : TypeId} {f : Nat × Nat} {v : Value} {mk : HP → List HP} {Q : SOut Unit → List HP → Prop} (k : Upd Γ b (.cells c t f) mk)
    (hoff : off < c.size) (hfr : ¬ (f.1 ≤ off ∧ off < f.2)) (hv : plainV v = true) (h : Q (.ok ()) (mk (Go.Proofs.Ytdganbddgobfdaa.pt b (.cells (c.setIfInBounds off v) t f)))) : SR P (store ⟨b, off, none⟩ v m) Γ Q := by
  intro w R hsat
  have hb := k.get w R hsat
  have hc := cell_of (off := off) hb
  rw [Array.getElem?_eq_getElem hoff] at hc
  have hff : w.frozen? ⟨b, off, none⟩ = false := by
    simp only [World.frozen?, hb]
    rw [Bool.and_eq_false_iff]
    by_cases h1 : f.1 ≤ off
    · right; simp; omega
    · left; simp; omega
  have hrun : (store ⟨b, off, none⟩ v m).run P w = .ok () (w.setCell ⟨b, off, none⟩ v) := by
    cases v with
    | agg cs => cases hv
    | tuple vs => cases hv
    | _ => simp only [store, Sem.run, hc, hff]; rfl
  rw [hrun]
  refine ⟨⟨rfl, rfl, rfl, by simp [World.setCell]⟩, _, h, k.set w R hsat _ _ ?_ ?_⟩
  · simp [World.setCell, Array.getElem?_modify, hb]
  · intro d hd
    simp [World.setCell, Array.getElem?_modify, Ne.symm hd]
end

/-! operations that only reckon -/
def kno : IntKind → Nat
  | .i8 => 0 | .i16 => 1 | .i32 => 2 | .i64 => 3 | .u8 => 4 | .u16 => 5 | .u32 => 6 | .u64 => 7
theorem kno_inj {a b : IntKind} (h : Nat.beq (kno a) (kno b) = true) : a = b := by
  cases a <;> cases b <;> first | rfl | (exact absurd h (by decide))
def ibits (op : BinOp) (k : IntKind) (x y : Int) : Int :=
  let a := BitVec.ofInt k.bits x
  let b := BitVec.ofInt k.bits y
  match op with
  | .and => k.wrap (a &&& b).toNat
  | .or => k.wrap (a ||| b).toNat
  | .xor => k.wrap (a ^^^ b).toNat
  | _ => k.wrap (a &&& ~~~b).toNat
def intBin (op : BinOp) (k : IntKind) (x y : Int) : Option Value :=
  match op with
  | .add => some (.int k (k.wrap (x + y)))
  | .sub => some (.int k (k.wrap (x - y)))
  | .mul => some (.int k (k.wrap (x * y)))
  | .and => some (.int k (ibits .and k x y))
  | .or => some (.int k (ibits .or k x y))
  | .xor => some (.int k (ibits .xor k x y))
  | .andNot => some (.int k (ibits .andNot k x y))
  | .eql => some (.bool (decide (x = y)))
  | .neq => some (.bool (decide (¬ x = y)))
  | .lss => some (.bool (decide (x < y)))
  | .leq => some (.bool (decide (x ≤ y)))
  | .gtr => some (.bool (decide (y < x)))
  | .geq => some (.bool (decide (y ≤ x)))
  | _ => none
def pureBin (op : BinOp) : Value → Value → Option Value
  | .int k x, .int k' y => match Nat.beq (kno k) (kno k') with
    | true => intBin op k x y
    | false => none
  | .string a, .string b => match op with
    | .eql => some (.bool (a.toList == b.toList))
    | .neq => some (.bool (!(a.toList == b.toList)))
    | .lss => some (.bool (Op.bytesLess a.toList b.toList))
    | .geq => some (.bool (!(Op.bytesLess a.toList b.toList)))
    | _ => none
  | _, _ => none
def pureUn (op : UnOp) : Value → Option Value
  | .bool b => match op with
    | .not => some (.bool (!b))
    | _ => none
  | .int k n => match op with
    | .neg => some (.int k (k.wrap (0 - n)))
    | _ => none
  | _ => none
def pureNil : Value → Option Value
  | .pointer (some a) => some (.pointer (some a))
  | .func (.func f) p q => some (.func (.func f) p q)
  | .func (.yield l) p q => some (.func (.yield l) p q)
  | .iface t v => some (.iface t v)
  | _ => none
def pureVal (T : Tm) (o : Oper) : Option Value :=
  match o.op with
  | .move x => evT T x
  | .assign x => evT T x
  | .pick c a b => match evT T c with
    | some (.bool true) => evT T a
    | some (.bool false) => evT T b
    | _ => none
  | .nilCheck x => match evT T x with
    | some v => pureNil v
    | none => none
  | .binOp op _ x y _ => match evT T x with
    | some a => match evT T y with
      | some b => pureBin op a b
      | none => none
    | none => none
  | .unOp op _ x => match evT T x with
    | some a => pureUn op a
    | none => none
  | .extract x i => match evT T x with
    | some (.tuple vs) => vs.toList[i]?
    | _ => none
  | .makeFunc fn p q => match argsT T p.toList with
    | some l => match argsT T q.toList with
      | some m => some (.func fn l.toArray m.toArray)
      | none => none
    | none => none
  | _ => none

theorem eqGuard_quiet {P : Program} {op : BinOp} {t : TypeId} {x y : Operand} {a b : Value} (h1 : a ≠ .nilIface ∨ b ≠ .nilIface) (h2 : ∀ p q, a = .agg p → b = .agg q → False) (w : World) :
    (eqGuard op t x y a b).run P w = .ok () w := by
  unfold eqGuard
  cases op <;> try rfl
  all_goals (cases a <;> cases b <;> first | rfl | (exfalso; rcases h1 with h1 | h1 <;> exact h1 rfl) | (exfalso; exact h2 _ _ rfl rfl))
theorem intBin_ok {P : Program} {op : BinOp} {k : IntKind} {x y : Int} {v : Value} {t : TypeId} (h : intBin op k x y = some v) (w : World) :
    (binOp op t (.int k x) (.int k y)).run P w = .ok v w := by
  cases op <;> simp only [intBin, Option.some.injEq, reduceCtorEq] at h <;> subst h <;>
    simp [binOp, Op.intArith, Op.intBits, Op.intCmp, ibits]
  all_goals first | rfl | (rw [Bool.eq_iff_iff]; simp) | skip
theorem pureBin_ok {P : Program} {op : BinOp} {a b v : Value} {t : TypeId} {x y : Operand} (h : pureBin op a b = some v) (w : World) :
    (do eqGuard op t x y a b; binOp op t a b : Sem Value).run P w = .ok v w := by
  rw [Sem.run_bind]
  cases a <;> cases b <;> simp only [pureBin] at h <;> try (cases h; done)
  · rw [eqGuard_quiet (.inl (by simp)) (by intro _ _ h; cases h)]
    split at h
    · rename_i k x' k' y' hb
      cases kno_inj hb
      exact intBin_ok h w
    · cases h
  · rw [eqGuard_quiet (.inl (by simp)) (by intro _ _ h; cases h)]
    split at h <;> cases h <;> simp [binOp, Op.stringOp]
theorem pureVal_ok {P : Program} {n : Nat} {T : Tm} {o : Oper} {v : Value} {a : Act} (h : pureVal T o = some v) (hr : Rel n T a) (w : World) :
    (execOp a.eval o).run P w = .ok (.value v) w := by
  unfold pureVal at h
  unfold execOp
  split at h
  · rename_i x ho; simp [ho, hr.eval h]
  · rename_i x ho; simp [ho, hr.eval h]
  · rename_i c p q ho
    split at h
    · rename_i hc; simp [ho, hr.eval hc, hr.eval h, asBool]
    · rename_i hc; simp [ho, hr.eval hc, hr.eval h, asBool]
    · cases h
  · rename_i x ho
    split at h
    · rename_i u hx
      simp only [ho, hr.eval hx]
      unfold pureNil at h
      split at h <;> cases h <;> rfl
    · cases h
  · rename_i op t x y t' ho
    split at h
    · rename_i u hx
      split at h
      · rename_i z hy
        simp only [ho, hr.eval hx, hr.eval hy]
        have := pureBin_ok (P := P) (t := t) (x := x) (y := y) h w
        rw [Sem.run_bind, this]; rfl
      · cases h
    · cases h
  · rename_i op t x ho
    split at h
    · rename_i u hx
      simp only [ho, hr.eval hx]
      unfold pureUn at h
      split at h
      · split at h
        · cases h; rfl
        · cases h
      · split at h
        · cases h; rfl
        · cases h
      · cases h
    · cases h
  · rename_i x i ho
    split at h
    · rename_i vs hx
      simp only [ho, hr.eval hx]
      have : vs[i]? = some v := by simpa using h
      simp [Instr.extract, this]
    · cases h
  · rename_i fn p q ho
    split at h
    · rename_i l hl
      split at h
      · rename_i m hm
        cases h
        have e1 := hr.args hl
        have e2 := hr.args hm
        simp only [ho, Instr.makeFunc]
        have h1 : p.map a.eval = l.toArray := Array.toList_inj.1 (by rw [Array.toList_map]; exact e1)
        have h2 : q.map a.eval = m.toArray := Array.toList_inj.1 (by rw [Array.toList_map]; exact e2)
        rw [h1, h2]; rfl
      · cases h
    · cases h
  · cases h
theorem SOp_pure {P : Program} {T : Tm} {Γ : List HP} {o : Oper} {v : Value} (h : pureVal T o = some v) : SOp P o T Γ fun e Γ' => e = .ok v ∧ Γ' = Γ := by
  refine ⟨fun c hc => ?_, fun n a w R hr hsat => ?_⟩
  · unfold pureVal at h; rw [hc] at h; cases h
  · rw [pureVal_ok h hr w]; exact ⟨Same.refl w, Γ, ⟨rfl, rfl⟩, hsat⟩
theorem SOps_pure {P : Program} {r : Option Nat} {n : Nat} {ops : Array Oper} {T : Tm} {D : List Deferred} {Γ : List HP} {K : Exit → Tm → List Deferred → List HP → Prop}
    {i d : Nat} {l : List Nat} {o : Oper} {v : Value} (ho : nthO ops.toList i = some o) (hw : wantT ops T o = some true) (hd : o.dst = some d) (hlt : Nat.blt d n = true)
    (hv : pureVal T o = some v) (h : SOps P r n ops l ((d, v) :: T) D Γ K) : SOps P r n ops (i :: l) T D Γ K :=
  SOps_val ho hw hd hlt (SOp_pure hv) h
end Go.Proofs.Ytdganbddgobfdaa
