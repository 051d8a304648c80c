/- A region whose order is drawn: one walk, in an order of one's own, serves them all. -/
import Derived.Test.YtdganbddgobfdaaSl6
import Derived.OrdersIn
namespace Go.Proofs.Ytdganbddgobfdaa

def rowTb (tb : List Nat) (l : List Edge) : Nat :=
  l.foldl (fun s e => if Region.binds .any e then s ||| 2 ^ e.on ||| tb.getD e.on 0 else s) 0
def mkTb (ol : List Oper) : List Nat := ol.foldl (fun acc o => acc ++ [rowTb acc o.after.toList]) []
def chkRow (ops : Array Oper) (tb : List Nat) (z : List (Oper × Nat)) (p : Oper × Nat) : Bool :=
  p.1.after.toList.all (fun e => !Region.binds .any e || Nat.blt e.on p.2) &&
  Nat.beq (tb.getD p.2 0) (rowTb tb p.1.after.toList) &&
  (p.1.looksAt ops).all (fun t => z.all fun q => match q.1.dst with
    | some d => !Nat.beq d t || (tb.getD p.2 0).testBit q.2
    | none => true) &&
  (match p.1.dst with
    | some d => z.all fun q => match q.1.dst with
      | some d' => !Nat.beq d' d || Nat.beq q.2 p.2
      | none => true
    | none => true) &&
  (match p.1.op with
    | .select _ _ => false
    | .defer _ => false
    | _ => true)
def chkOrder (full : Bool) (tb : List Nat) (ch : List Nat) : List Nat → List Nat → Bool
  | _, [] => true
  | seen, x :: l => ((!full && ch.contains x) || seen.all (fun c => (tb.getD x 0).testBit c)) && chkOrder full tb ch (if ch.contains x then x :: seen else seen) l
def chkEarly (tb : List Nat) (ch ea : List Nat) : List Nat → Bool
  | [] => true
  | x :: l => (!ea.contains x || l.all (fun c => !ch.contains c || (tb.getD c 0).testBit x)) && chkEarly tb ch ea l
def chkDeps (tb : List Nat) : List Nat → Bool
  | [] => true
  | x :: l => l.all (fun c => !(tb.getD x 0).testBit c) && chkDeps tb l
def chkNodup : List Nat → Bool
  | [] => true
  | x :: l => !l.contains x && chkNodup l
def okDrawF (full : Bool) (ops : Array Oper) (l0 ch ea : List Nat) : Bool :=
  let tb := mkTb ops.toList
  let z := ops.toList.zipIdx
  z.all (chkRow ops tb z) && chkNodup l0 && l0.all (Nat.blt · ops.toList.length) && (List.range ops.toList.length).all (l0.contains ·) &&
    chkOrder full tb ch [] l0 && chkEarly tb ch ea l0 && chkDeps tb l0

abbrev okDraw (ops : Array Oper) (l0 ch ea : List Nat) : Bool := okDrawF true ops l0 ch ea

structure DrawOK (ops : Array Oper) (l0 ch ea : List Nat) (bf : Nat → Nat → Prop) : Prop where
  below : ∀ (i : Nat) (o : Oper), ops[i]? = some o → ∀ e ∈ o.after, Region.binds .any e = true → e.on < i
  bef : ∀ (i p : Nat), bf i p → ∀ (o : Oper), ops[i]? = some o → ∃ e ∈ o.after, Region.binds .any e = true ∧ (e.on = p ∨ bf e.on p)
  names : ∀ (i : Nat) (o : Oper), ops[i]? = some o → ∀ t ∈ o.looksAt ops, ∀ (j : Nat) (oj : Oper), ops[j]? = some oj → oj.dst = some t → bf i j
  dsts : ∀ (i j : Nat) (oi oj : Oper) (d : Nat), ops[i]? = some oi → ops[j]? = some oj → oi.dst = some d → oj.dst = some d → i = j
  nodup : l0.Nodup
  mem : ∀ i, i ∈ l0 ↔ i < ops.size
  order : ∀ pre x post, l0 = pre ++ x :: post → x ∉ ch → ∀ c ∈ pre, c ∈ ch → bf x c
  early : ∀ pre x post, l0 = pre ++ x :: post → x ∈ ea → ∀ c ∈ post, c ∈ ch → bf c x
  deps : ∀ pre x post, l0 = pre ++ x :: post → ∀ c ∈ post, ¬ bf x c
  nosel : ∀ (i : Nat) (o : Oper), ops[i]? = some o → (∀ cs b, o.op ≠ .select cs b) ∧ (∀ c, o.op ≠ .defer c)

theorem rowTb_bit (tb : List Nat) (p : Nat) : ∀ (l : List Edge) (s : Nat), (l.foldl (fun s e => if Region.binds .any e then s ||| 2 ^ e.on ||| tb.getD e.on 0 else s) s).testBit p = true →
    s.testBit p = true ∨ ∃ e ∈ l, Region.binds .any e = true ∧ (e.on = p ∨ (tb.getD e.on 0).testBit p = true) := by
  intro l
  induction l with
  | nil => intro s h; exact .inl h
  | cons e l ih =>
    intro s h
    simp only [List.foldl_cons] at h
    rcases ih _ h with h1 | ⟨e', he', hb, hp⟩
    · by_cases hb : Region.binds .any e = true
      · rw [if_pos hb] at h1
        simp only [Nat.testBit_or, Bool.or_eq_true] at h1
        rcases h1 with (h1 | h1) | h1
        · exact .inl h1
        · rw [Nat.testBit_two_pow] at h1
          exact .inr ⟨e, by simp, hb, .inl (by simpa using h1)⟩
        · exact .inr ⟨e, by simp, hb, .inr h1⟩
      · rw [if_neg hb] at h1; exact .inl h1
    · exact .inr ⟨e', by simp [he'], hb, hp⟩
theorem chkOrder_spec (full : Bool) (tb ch : List Nat) : ∀ (l seen : List Nat), chkOrder full tb ch seen l = true → ∀ pre x post, l = pre ++ x :: post → (full = true ∨ x ∉ ch) →
    (∀ c ∈ seen, (tb.getD x 0).testBit c = true) ∧ ∀ c ∈ pre, c ∈ ch → (tb.getD x 0).testBit c = true := by
  intro l
  induction l with
  | nil => intro seen _ pre x post h; simp at h
  | cons y l ih =>
    intro seen h pre x post e hf
    simp only [chkOrder, Bool.and_eq_true, Bool.or_eq_true, List.all_eq_true] at h
    cases pre with
    | nil =>
      simp only [List.nil_append, List.cons.injEq] at e
      obtain ⟨rfl, rfl⟩ := e
      refine ⟨h.1.resolve_left ?_, by simp⟩
      rintro ⟨h1, h2⟩
      rcases hf with hf | hf
      · rw [hf] at h1; cases h1
      · exact hf (by simpa using h2)
    | cons z pre =>
      simp only [List.cons_append, List.cons.injEq] at e
      obtain ⟨rfl, rfl⟩ := e
      obtain ⟨h1, h2⟩ := ih _ h.2 pre x post rfl hf
      refine ⟨fun c hc => h1 c ?_, fun c hc hch => ?_⟩
      · split
        · exact List.mem_cons_of_mem _ hc
        · exact hc
      · rcases List.mem_cons.1 hc with rfl | hc
        · exact h1 c (by rw [if_pos (by simpa using hch)]; simp)
        · exact h2 c hc hch
theorem chkEarly_spec (tb ch ea : List Nat) : ∀ (l : List Nat), chkEarly tb ch ea l = true → ∀ pre x post, l = pre ++ x :: post → x ∈ ea → ∀ c ∈ post, c ∈ ch → (tb.getD c 0).testBit x = true := by
  intro l
  induction l with
  | nil => intro _ pre x post h; simp at h
  | cons y l ih =>
    intro h pre x post e hx c hc hch
    simp only [chkEarly, Bool.and_eq_true, Bool.or_eq_true, Bool.not_eq_true', List.all_eq_true] at h
    cases pre with
    | nil =>
      simp only [List.nil_append, List.cons.injEq] at e
      obtain ⟨rfl, rfl⟩ := e
      rcases h.1 with h1 | h1
      · rw [List.contains_eq_mem] at h1; simp [hx] at h1
      · rcases h1 c hc with h2 | h2
        · rw [List.contains_eq_mem] at h2; simp [hch] at h2
        · exact h2
    | cons z pre =>
      simp only [List.cons_append, List.cons.injEq] at e
      obtain ⟨rfl, rfl⟩ := e
      exact ih h.2 pre x post rfl hx c hc hch
theorem chkDeps_spec (tb : List Nat) : ∀ (l : List Nat), chkDeps tb l = true → ∀ pre x post, l = pre ++ x :: post → ∀ c ∈ post, ¬ (tb.getD x 0).testBit c = true := by
  intro l
  induction l with
  | nil => intro _ pre x post h; simp at h
  | cons y l ih =>
    intro h pre x post e c hc
    simp only [chkDeps, Bool.and_eq_true, Bool.not_eq_true', List.all_eq_true] at h
    cases pre with
    | nil =>
      simp only [List.nil_append, List.cons.injEq] at e
      obtain ⟨rfl, rfl⟩ := e
      rw [h.1 c hc]; simp
    | cons z pre =>
      simp only [List.cons_append, List.cons.injEq] at e
      obtain ⟨rfl, rfl⟩ := e
      exact ih h.2 pre x post rfl c hc
theorem chkNodup_spec : ∀ (l : List Nat), chkNodup l = true → l.Nodup := by
  intro l
  induction l with
  | nil => intro _; exact List.nodup_nil
  | cons x l ih =>
    intro h
    simp only [chkNodup, Bool.and_eq_true, Bool.not_eq_true'] at h
    rw [List.nodup_cons]
    exact ⟨by simpa using h.1, ih h.2⟩
theorem okDraw_spec {full : Bool} {ops : Array Oper} {l0 ch ea : List Nat} (h : okDrawF full ops l0 ch ea = true) :
    DrawOK ops l0 ch ea (fun i p => ((mkTb ops.toList).getD i 0).testBit p = true) ∧
      (full = true → ∀ pre x post, l0 = pre ++ x :: post → ∀ c ∈ pre, c ∈ ch → ((mkTb ops.toList).getD x 0).testBit c = true) := by
  simp only [okDrawF, Bool.and_eq_true, List.all_eq_true] at h
  obtain ⟨⟨⟨⟨⟨⟨hrow, hnd⟩, hlt⟩, hall⟩, hord⟩, hea⟩, hdp⟩ := h
  have row : ∀ i o, ops[i]? = some o → chkRow ops (mkTb ops.toList) ops.toList.zipIdx (o, i) = true := fun i o ho => by
    refine hrow (o, i) ?_
    rw [List.mem_zipIdx_iff_getElem?]
    simpa using ho
  have zmem : ∀ i o, ops[i]? = some o → (o, i) ∈ ops.toList.zipIdx := fun i o ho => by
    rw [List.mem_zipIdx_iff_getElem?]; simpa using ho
  refine ⟨?_, fun hf pre x post e c hc hch => (chkOrder_spec full _ ch l0 [] hord pre x post e (.inl hf)).2 c hc hch⟩
  refine ⟨?_, ?_, ?_, ?_, chkNodup_spec _ hnd, ?_, ?_, ?_, fun pre x post e c hc => chkDeps_spec _ l0 hdp pre x post e c hc, ?_⟩
  · intro i o ho e he hb
    have := row i o ho
    simp only [chkRow, Bool.and_eq_true, List.all_eq_true] at this
    have h1 := this.1.1.1.1 e (by simpa using he)
    rw [hb] at h1
    have h2 : Nat.blt e.on i = true := by simpa using h1
    exact Nat.lt_of_succ_le (Nat.le_of_ble_eq_true h2)
  · intro i p hp o ho
    have := row i o ho
    simp only [chkRow, Bool.and_eq_true] at this
    have h1 := Nat.eq_of_beq_eq_true this.1.1.1.2
    rw [h1] at hp
    rcases rowTb_bit _ p _ _ hp with h0 | ⟨e, he, hb, hh⟩
    · simp at h0
    · exact ⟨e, by simpa using he, hb, hh⟩
  · intro i o ho t ht j oj hoj hd
    have := row i o ho
    simp only [chkRow, Bool.and_eq_true, List.all_eq_true] at this
    have h1 := this.1.1.2 t ht (oj, j) (zmem j oj hoj)
    simp only [hd] at h1
    simpa using h1
  · intro i j oi oj d hi hj hdi hdj
    have := row i oi hi
    simp only [chkRow, Bool.and_eq_true] at this
    have h1 := this.1.2
    rw [hdi] at h1
    simp only [List.all_eq_true] at h1
    have h2 := h1 (oj, j) (zmem j oj hj)
    simp only [hdj] at h2
    have : j = i := by simpa using h2
    exact this.symm
  · intro i
    constructor
    · intro hi; have := Nat.lt_of_succ_le (Nat.le_of_ble_eq_true (hlt i hi)); simpa using this
    · intro hi
      have := hall i (by simpa using hi)
      simpa using this
  · intro pre x post e hx c hc hch
    exact (chkOrder_spec full _ ch l0 [] hord pre x post e (.inr hx)).2 c hc hch
  · intro pre x post e hx c hc hch
    exact chkEarly_spec _ ch ea l0 hea pre x post e hx c hc hch
  · intro i o ho
    have := row i o ho
    simp only [chkRow, Bool.and_eq_true] at this
    have h1 := this.2
    constructor
    · intro cs b e; rw [e] at h1; cases h1
    · intro c e; rw [e] at h1; cases h1

/-- An operation that leaves the world as it is, and what it gives. -/
def FOK (P : Program) (ops : Array Oper) (o : Oper) (T : Tm) (Γ : List HP) (v : Value) : Prop :=
  (wantT ops T o = some false ∧ v = undef) ∨
  (wantT ops T o = some true ∧ ∀ n a w R, Rel n T a → sat w (Γ ++ R) → (execOp a.eval o).run P w = .ok (.value v) w)

def DR (P : Program) (n : Nat) (ops : Array Oper) (ch ea : List Nat) (Φ : List HP) (D : List Deferred) (K : Exit → Tm → List Deferred → List HP → Prop) : List Nat → Tm → List HP → Prop
  | [], T, Δ => K .normal T D (Φ ++ Δ)
  | i :: rest, T, Δ => ∃ o, nthO ops.toList i = some o ∧ dok n o.dst = true ∧
      ((ch.contains i = false ∧ ∃ v, FOK P ops o T (if ea.contains i then Φ ++ Δ else Φ) v ∧ DR P n ops ch ea Φ D K rest (putT T o.dst v) Δ) ∨
       (ch.contains i = true ∧ wantT ops T o = some false ∧ DR P n ops ch ea Φ D K rest (putT T o.dst undef) Δ) ∨
       (ch.contains i = true ∧ wantT ops T o = some true ∧ ∃ Q, SOp P o T Δ Q ∧ (∀ v Δ', Q (.ok v) Δ' → DR P n ops ch ea Φ D K rest (putT T o.dst v) Δ') ∧
          ∀ ch Δ', Q (.panics ch) Δ' → K (.panic ch) [] D (Φ ++ Δ')))

/-- The activation's temporaries, filled up with what is known. -/
def fillT (n : Nat) (T : Tm) (a : Act) : Act :=
  { a with tmps := (Array.range n).map fun t => match tget T t with
    | some v => v
    | none => a.tmps.getD t undef }
def WT (n : Nat) (T : Tm) : Prop := ∀ t v, tget T t = some v → t < n ∨ v = undef
theorem WT.put {n : Nat} {T : Tm} (h : WT n T) {d : Option Tmp} (hd : dok n d = true) (v : Value) : WT n (putT T d v) := by
  cases d with
  | none => exact h
  | some d =>
    have hlt : d < n := by simpa [dok] using hd
    intro t u ht
    simp only [putT, tget] at ht
    split at ht
    · rename_i hb; cases Nat.eq_of_beq_eq_true hb; exact .inl hlt
    · exact h t u ht
theorem fillT_rel {n : Nat} {T : Tm} {a : Act} (h : WT n T) : Rel n T (fillT n T a) := by
  refine ⟨by simp [fillT], fun t v ht => ?_⟩
  rcases h t v ht with hlt | rfl
  · simp [fillT, hlt, ht]
  · by_cases hlt : t < n
    · simp [fillT, hlt, ht]
    · simp [fillT, hlt]
theorem fillT_get {n : Nat} {T : Tm} {a : Act} {t : Nat} (hs : a.tmps.size = n) (h : ∀ v, tget T t = some v → a.tmps.getD t undef = v) : (fillT n T a).tmps.getD t undef = a.tmps.getD t undef := by
  by_cases hlt : t < n
  · simp only [fillT, Array.getD_eq_getD_getElem?]
    cases ht : tget T t with
    | none => simp [hlt, ht]
    | some v => have := h v ht; simp [hlt, ht]; simpa using this.symm
  · have h2 : ¬ t < a.tmps.size := by omega
    simp [fillT, hlt, h2]
theorem looks_exec {ops : Array Oper} {o : Oper} {a b : Act} (hs : ∀ cs b, o.op ≠ .select cs b) (h : ∀ t ∈ o.looksAt ops, a.tmps.getD t undef = b.tmps.getD t undef) :
    execOp a.eval o = execOp b.eval o := by
  refine execOp_congr o hs fun x hx => ?_
  cases x with
  | tmp t => exact h t (List.mem_append_left _ (List.mem_filterMap.2 ⟨.tmp t, by simpa using hx, rfl⟩))
  | _ => rfl
theorem looks_want {ops : Array Oper} {o : Oper} {a b : Act} (hsz : a.tmps.size = b.tmps.size) (h : ∀ t ∈ o.looksAt ops, a.tmps.getD t undef = b.tmps.getD t undef) :
    Region.wanted o (yielded ops a.tmps) = Region.wanted o (yielded ops b.tmps) := by
  unfold Region.wanted
  cases hg : o.guard with
  | none => rfl
  | some gw =>
    obtain ⟨g, want⟩ := gw
    have hy : yielded ops a.tmps g = yielded ops b.tmps g := by
      unfold yielded
      cases ht : (ops[g]?).bind (·.dst) with
      | none => rfl
      | some t =>
        have := h t (by simp [Oper.looksAt, hg, ht])
        rw [Array.getD_eq_getD_getElem?, Array.getD_eq_getD_getElem?] at this
        simp only [Option.bind_some]
        by_cases hlt : t < a.tmps.size
        · have h2 : t < b.tmps.size := hsz ▸ hlt
          simp only [Array.getElem?_eq_getElem hlt, Array.getElem?_eq_getElem h2, Option.getD_some] at this ⊢
          rw [this]
        · have h2 : ¬ t < b.tmps.size := fun hh => hlt (hsz ▸ hh)
          simp [Array.getElem?_eq_none (Nat.le_of_not_lt hlt), Array.getElem?_eq_none (Nat.le_of_not_lt h2)]
    simp only [hy]

section
variable {P : Program} {r : Option Nat} {n : Nat} {ops : Array Oper} {l0 ch ea : List Nat} {bf : Nat → Nat → Prop} {Φ : List HP} {D : List Deferred} {K : Exit → Tm → List Deferred → List HP → Prop}
/-- An operation that has been carried out on paper, and not yet in truth. -/
structure PendOK (P : Program) (n : Nat) (ops : Array Oper) (ch ea : List Nat) (Φ : List HP) (i : Nat) (Tc : Tm) (Δ : List HP) (o : Oper) (v : Value) : Prop where
  ho : ops[i]? = some o
  hd : dok n o.dst = true
  hv : ∀ d, o.dst = some d → tget Tc d = some v
  step : ∀ (a : Act) (w : World) (R : List HP), a.tmps.size = n → (∀ t ∈ o.looksAt ops, ∀ u, tget Tc t = some u → a.tmps.getD t undef = u) → sat w ((if ea.contains i then Φ ++ Δ else Φ) ++ R) →
    (Region.wanted o (yielded ops a.tmps) = true ∧ (execOp a.eval o).run P w = .ok (.value v) w) ∨ (Region.wanted o (yielded ops a.tmps) = false ∧ v = undef)

theorem pend_of_fok {i : Nat} {o : Oper} {v : Value} {T : Tm} {Δ : List HP} (hok : DrawOK ops l0 ch ea bf) (hw : WT n T) (ho : ops[i]? = some o) (hd : dok n o.dst = true) (hself : ∀ d, o.dst = some d → d ∉ o.looksAt ops)
    (h : FOK P ops o T (if ea.contains i then Φ ++ Δ else Φ) v) : PendOK P n ops ch ea Φ i (putT T o.dst v) Δ o v := by
  refine ⟨ho, hd, fun d e => ?_, fun a w R hs ha hsat => ?_⟩
  · rw [e]; simp [putT, tget]
  · have ha' : ∀ t ∈ o.looksAt ops, ∀ u, tget T t = some u → a.tmps.getD t undef = u := by
      intro t ht u hu
      refine ha t ht u ?_
      cases hdst : o.dst with
      | none => exact hu
      | some d =>
        have hne : d ≠ t := fun e => hself d hdst (e ▸ ht)
        have hb : Nat.beq d t = false := by
          cases hh : Nat.beq d t with
          | false => rfl
          | true => exact absurd (Nat.eq_of_beq_eq_true hh) hne
        simp only [putT, tget, hb]; exact hu
    have hr : Rel n T (fillT n T a) := fillT_rel hw
    have hl : ∀ t ∈ o.looksAt ops, a.tmps.getD t undef = (fillT n T a).tmps.getD t undef := fun t ht => (fillT_get hs fun u hu => ha' t ht u hu).symm
    have e1 := looks_exec (hok.nosel i o ho).1 hl
    have e2 := looks_want (ops := ops) (by rw [hs, hr.size]) hl
    rcases h with ⟨hwt, rfl⟩ | ⟨hwt, hrun⟩
    · right; rw [e2]; exact ⟨wantT_sound hr hwt, rfl⟩
    · left; rw [e2, e1]; exact ⟨wantT_sound hr hwt, hrun n _ w R hr hsat⟩

theorem PendOK.keep {i : Nat} {Tc : Tm} {Δ : List HP} {o : Oper} {v : Value} (h : PendOK P n ops ch ea Φ i Tc Δ o v) {d : Option Tmp} {u : Value} (h1 : ∀ e, d = some e → e ∉ o.looksAt ops ∧ o.dst ≠ some e) :
    PendOK P n ops ch ea Φ i (putT Tc d u) Δ o v := by
  cases d with
  | none => exact h
  | some e =>
    obtain ⟨h2, h3⟩ := h1 e rfl
    have get : ∀ t, t ≠ e → tget (putT Tc (some e) u) t = tget Tc t := fun t ht => by
      have hb : Nat.beq e t = false := by
        cases hh : Nat.beq e t with
        | false => rfl
        | true => exact absurd (Nat.eq_of_beq_eq_true hh).symm ht
      simp only [putT, tget, hb]
    refine ⟨h.ho, h.hd, fun d hd => ?_, fun a w R hs ha hsat => h.step a w R hs (fun t ht x hx => ha t ht x ?_) hsat⟩
    · rw [get d (fun x => h3 (x ▸ hd))]; exact h.hv d hd
    · rw [get t (fun x => h2 (x ▸ ht))]; exact hx

/-- What the machine has done, beside what has been done on paper. -/
structure St (P : Program) (r : Option Nat) (n : Nat) (ops : Array Oper) (l0 ch ea : List Nat) (bf : Nat → Nat → Prop) (Φ : List HP) (D : List Deferred) (K : Exit → Tm → List Deferred → List HP → Prop)
    (w0 : World) (R : List HP) (listed : Array Bool) (a : Act) (w : World) (pend : List Nat) (cur pre : List Nat) (Tc : Tm) (Δ : List HP) : Prop where
  ok : DrawOK ops l0 ch ea bf
  lsz : listed.size = ops.size
  mem : ∀ j, listed.getD j true = false ↔ (j ∈ pend ∨ j ∈ cur)
  closed : ∀ (j : Nat) (o : Oper), ops[j]? = some o → listed.getD j false = true → ∀ e ∈ o.after, Region.binds .any e = true → listed.getD e.on false = true
  cut : l0 = pre ++ cur
  ppre : ∀ i ∈ pend, i ∈ pre
  pfl : ∀ i ∈ pend, i ∉ ch
  pnd : pend.Nodup
  dr : DR P n ops ch ea Φ D K cur Tc Δ
  wt : WT n Tc
  size : a.tmps.size = n
  defs : a.defers = D
  val : ∀ t v, tget Tc t = some v → (∀ i ∈ pend, ∀ o, ops[i]? = some o → o.dst ≠ some t) → a.tmps.getD t undef = v
  pok : ∀ i ∈ pend, ∃ o v, PendOK P n ops ch ea Φ i Tc Δ o v
  same : Same w0 w
  sat : sat w (Φ ++ Δ ++ R)

theorem selfless (hok : DrawOK ops l0 ch ea bf) {i : Nat} {o : Oper} (ho : ops[i]? = some o) : ∀ d, o.dst = some d → d ∉ o.looksAt ops := by
  intro d hd hm
  have hb := hok.names i o ho d hm i o ho hd
  have down : ∀ m i p, i ≤ m → bf i p → ∀ o, ops[i]? = some o → p < i := by
    intro m
    induction m with
    | zero =>
      intro i p him hb o ho
      obtain ⟨e, he, hbd, _⟩ := hok.bef i p hb o ho
      have := hok.below i o ho e he hbd
      omega
    | succ m ih =>
      intro i p him hb o ho
      obtain ⟨e, he, hbd, h⟩ := hok.bef i p hb o ho
      have hlt := hok.below i o ho e he hbd
      rcases h with rfl | h
      · exact hlt
      · have hi : i < ops.size := (Array.getElem?_eq_some_iff.1 ho).1
        have := ih e.on p (by omega) h _ (Array.getElem?_eq_getElem (show e.on < ops.size by omega))
        omega
  have := down i i i (Nat.le_refl _) hb o ho
  omega

/-- All that an operation waits for, at whatever distance, has been carried out. -/
theorem bef_listed {listed : Array Bool} (hok : DrawOK ops l0 ch ea bf)
    (closed : ∀ (j : Nat) (o : Oper), ops[j]? = some o → listed.getD j false = true → ∀ e ∈ o.after, Region.binds .any e = true → listed.getD e.on false = true)
    {i : Nat} {o : Oper} (ho : ops[i]? = some o) (hr : ∀ e ∈ o.after, Region.binds .any e = true → listed.getD e.on false = true) {p : Nat} (hb : bf i p) : listed.getD p false = true := by
  have all : ∀ m j p, j ≤ m → listed.getD j false = true → bf j p → ∀ o, ops[j]? = some o → listed.getD p false = true := by
    intro m
    induction m with
    | zero =>
      intro j p hjm hl hb o ho
      obtain ⟨e, he, hbd, _⟩ := hok.bef j p hb o ho
      have := hok.below j o ho e he hbd
      omega
    | succ m ih =>
      intro j p hjm hl hb o ho
      obtain ⟨e, he, hbd, h⟩ := hok.bef j p hb o ho
      have hlt := hok.below j o ho e he hbd
      have hl2 := closed j o ho hl e he hbd
      rcases h with rfl | h
      · exact hl2
      · have hi : j < ops.size := (Array.getElem?_eq_some_iff.1 ho).1
        exact ih e.on p (by omega) hl2 h _ (Array.getElem?_eq_getElem (show e.on < ops.size by omega))
  obtain ⟨e, he, hbd, h⟩ := hok.bef i p hb o ho
  have hlt := hok.below i o ho e he hbd
  rcases h with rfl | h
  · exact hr e he hbd
  · have hi : i < ops.size := (Array.getElem?_eq_some_iff.1 ho).1
    exact all e.on e.on p (Nat.le_refl _) (hr e he hbd) h _ (Array.getElem?_eq_getElem (show e.on < ops.size by omega))
end

theorem tget_put_ne {T : Tm} {d t : Nat} {v : Value} (h : d ≠ t) : tget (putT T (some d) v) t = tget T t := by
  have hb : Nat.beq d t = false := by
    cases hh : Nat.beq d t with
    | false => rfl
    | true => exact absurd (Nat.eq_of_beq_eq_true hh) h
  simp only [putT, tget, hb]
theorem tget_put_eq {T : Tm} {d : Nat} {v : Value} : tget (putT T (some d) v) d = some v := by
  simp [putT, tget]

section
variable {P : Program} {r : Option Nat} {n : Nat} {ops : Array Oper} {l0 ch ea : List Nat} {bf : Nat → Nat → Prop} {Φ : List HP} {D : List Deferred} {K : Exit → Tm → List Deferred → List HP → Prop}
  {w0 w : World} {R : List HP} {listed : Array Bool} {a : Act}

theorem St.op (h : ∃ pend cur pre Tc Δ, St P r n ops l0 ch ea bf Φ D K w0 R listed a w pend cur pre Tc Δ) {j : Nat} (hj : j ∈ l0) : ∃ o, ops[j]? = some o := by
  obtain ⟨pend, cur, pre, Tc, Δ, h⟩ := h
  exact ⟨_, Array.getElem?_eq_getElem ((h.ok.mem j).1 hj)⟩

/-- On paper: on to the next operation that turns the world. -/
theorem St.adv : ∀ (cur pend pre : List Nat) (Tc : Tm) (Δ : List HP), St P r n ops l0 ch ea bf Φ D K w0 R listed a w pend cur pre Tc Δ →
    ∃ pend' cur' pre' Tc', St P r n ops l0 ch ea bf Φ D K w0 R listed a w pend' cur' pre' Tc' Δ ∧ (cur' = [] ∨ ∃ c rest, cur' = c :: rest ∧ c ∈ ch) ∧ pend'.length + cur'.length = pend.length + cur.length := by
  intro cur
  induction cur with
  | nil => intro pend pre Tc Δ h; exact ⟨pend, [], pre, Tc, h, .inl rfl, rfl⟩
  | cons i rest ih =>
    intro pend pre Tc Δ h
    by_cases hch : i ∈ ch
    · exact ⟨pend, i :: rest, pre, Tc, h, .inr ⟨i, rest, rfl, hch⟩, rfl⟩
    · obtain ⟨o, ho, hd, hdr⟩ := h.dr
      have hoi := nthO_ops ho
      have hc : ch.contains i = false := by simpa using hch
      rcases hdr with ⟨_, v, hf, hdr⟩ | ⟨hc', _⟩ | ⟨hc', _⟩
      rotate_left
      · rw [hc] at hc'; cases hc'
      · rw [hc] at hc'; cases hc'
      have hself := selfless h.ok hoi
      have hcut : l0 = (pre ++ [i]) ++ rest := by rw [h.cut]; simp
      have hnd : (pre ++ i :: rest).Nodup := h.cut ▸ h.ok.nodup
      have hipre : i ∉ pre := fun hm => (List.nodup_append.1 hnd).2.2 i hm i (by simp) rfl
      have hip : i ∉ pend := fun hm => hipre (h.ppre i hm)
      have hother : ∀ p ∈ pend, ∀ op, ops[p]? = some op → ∀ e, o.dst = some e → e ∉ op.looksAt ops ∧ op.dst ≠ some e := by
        intro p hp op hop e he
        constructor
        · intro hm
          have hb := h.ok.names p op hop e hm i o hoi he
          obtain ⟨p1, p2, hpp⟩ := List.append_of_mem (h.ppre p hp)
          refine h.ok.deps p1 p (p2 ++ i :: rest) (by rw [h.cut, hpp]; simp) i (by simp) hb
        · intro hde
          have := h.ok.dsts p i op o e hop hoi hde he
          exact hip (this ▸ hp)
      obtain ⟨pend', cur', pre', Tc', h', hh, hl⟩ := ih (i :: pend) (pre ++ [i]) (putT Tc o.dst v) Δ
        { ok := h.ok, lsz := h.lsz, closed := h.closed, cut := hcut, dr := hdr, size := h.size, defs := h.defs, same := h.same, sat := h.sat
          mem := fun j => by rw [h.mem j]; simp only [List.mem_cons]; exact ⟨fun x => by rcases x with x | x | x <;> simp [x], fun x => by rcases x with (x | x) | x <;> simp [x]⟩
          ppre := fun j hj => by
            rcases List.mem_cons.1 hj with rfl | hj
            · simp
            · exact List.mem_append_left _ (h.ppre j hj)
          pfl := fun j hj => by
            rcases List.mem_cons.1 hj with rfl | hj
            · exact hch
            · exact h.pfl j hj
          pnd := List.nodup_cons.2 ⟨hip, h.pnd⟩
          wt := h.wt.put hd v
          val := fun t u ht hn => by
            cases hdst : o.dst with
            | none => rw [hdst] at ht; exact h.val t u ht fun p hp op hop => hn p (List.mem_cons_of_mem _ hp) op hop
            | some d =>
              have hne : d ≠ t := fun e => hn i (by simp) o hoi (by rw [hdst, e])
              rw [hdst, tget_put_ne hne] at ht
              exact h.val t u ht fun p hp op hop => hn p (List.mem_cons_of_mem _ hp) op hop
          pok := fun p hp => by
            rcases List.mem_cons.1 hp with rfl | hp
            · exact ⟨o, v, pend_of_fok h.ok h.wt hoi hd hself hf⟩
            · obtain ⟨op, vp, hpo⟩ := h.pok p hp
              exact ⟨op, vp, hpo.keep fun e he => hother p hp op hpo.ho e he⟩ }
      exact ⟨pend', cur', pre', Tc', h', hh, by rw [hl]; simp; omega⟩

/-- What the temporaries hold that an operation that may come up now looks at. -/
theorem St.looks {pend cur pre : List Nat} {Tc : Tm} {Δ : List HP} (h : St P r n ops l0 ch ea bf Φ D K w0 R listed a w pend cur pre Tc Δ) {i : Nat} {o : Oper} (ho : ops[i]? = some o)
    (hr : ∀ e ∈ o.after, Region.binds .any e = true → listed.getD e.on false = true) : ∀ t ∈ o.looksAt ops, ∀ u, tget Tc t = some u → a.tmps.getD t undef = u := by
  intro t ht u hu
  refine h.val t u hu fun p hp op hop hd => ?_
  have hb := h.ok.names i o ho t ht p op hop hd
  have hl := bef_listed h.ok h.closed ho hr hb
  have hu := (h.mem p).2 (.inl hp)
  have hlt : p < listed.size := by rw [h.lsz]; exact (Array.getElem?_eq_some_iff.1 hop).1
  rw [Array.getD_eq_getD_getElem?, Array.getElem?_eq_getElem hlt] at hl hu
  simp at hl hu
  rw [hl] at hu; cases hu

theorem set_true {i j : Nat} (h : (listed.setIfInBounds i true).getD j true = false) : j ≠ i ∧ listed.getD j true = false := by
  by_cases e : i = j
  · subst e
    exfalso
    by_cases hlt : i < listed.size
    · simp [hlt] at h
    · simp [hlt] at h
  · rw [getD_set_ne true e] at h
    exact ⟨Ne.symm e, h⟩

theorem drawn_main (hok : DrawOK ops l0 ch ea bf) (hfull : ∀ pre x post, l0 = pre ++ x :: post → ∀ c ∈ pre, c ∈ ch → bf x c) : ∀ (fuel : Nat) (listed : Array Bool) (a : Act) (w : World) (pend cur pre : List Nat) (Tc : Tm) (Δ : List HP),
    St P r n ops l0 ch ea bf Φ D K w0 R listed a w pend cur pre Tc Δ → (cur = [] ∨ ∃ c rest, cur = c :: rest ∧ c ∈ ch) → pend.length + cur.length ≤ fuel →
    wpAnyIn (FW r) 0 P .any ops (post K n w0 R) fuel listed a w := by
  -- nothing is left to do
  have fin : ∀ (listed : Array Bool) (a : Act) (w : World) (Tc : Tm) (Δ : List HP) (pre : List Nat), St P r n ops l0 ch ea bf Φ D K w0 R listed a w [] [] pre Tc Δ → post K n w0 R .normal a w := by
    intro listed a w Tc Δ pre h
    exact ⟨h.same, Tc, Φ ++ Δ, h.defs ▸ h.dr, ⟨h.size, fun t v ht => h.val t v ht (fun p hp => by cases hp)⟩, h.sat⟩
  -- something may come up while something is left
  have some_ready : ∀ (listed : Array Bool), listed.size = ops.size → ∀ m j, j ≤ m → listed.getD j true = false → Region.ready .any ops listed ≠ [] := by
    intro listed hls m
    induction m with
    | zero =>
      intro j hj hl e
      have hlt : j < listed.size := by
        rcases Nat.lt_or_ge j listed.size with h' | h'
        · exact h'
        · simp [Array.getElem?_eq_none h'] at hl
      have : j ∈ Region.ready .any ops listed := mem_ready.2 ⟨hl, _, Array.getElem?_eq_getElem (hls ▸ hlt), fun e he hb => by
        have := hok.below j _ (Array.getElem?_eq_getElem (hls ▸ hlt)) e he hb
        omega⟩
      rw [e] at this; cases this
    | succ m ih =>
      intro j hj hl e
      have hlt : j < listed.size := by
        rcases Nat.lt_or_ge j listed.size with h' | h'
        · exact h'
        · simp [Array.getElem?_eq_none h'] at hl
      have hoj := Array.getElem?_eq_getElem (hls ▸ hlt : j < ops.size)
      by_cases hall : ∀ e ∈ (ops[j]'(hls ▸ hlt)).after, Region.binds .any e = true → listed.getD e.on false = true
      · have : j ∈ Region.ready .any ops listed := mem_ready.2 ⟨hl, _, hoj, hall⟩
        rw [e] at this; cases this
      · simp only [Classical.not_forall] at hall
        obtain ⟨ed, hed, hb, hn⟩ := hall
        have hlt2 := hok.below j _ hoj ed hed hb
        refine ih ed.on (by omega) ?_ e
        have h3 : ed.on < listed.size := by omega
        simpa [h3] using hn
  intro fuel
  induction fuel with
  | zero =>
    intro listed a w pend cur pre Tc Δ h hh hl
    have e1 : pend = [] := List.eq_nil_of_length_eq_zero (by omega)
    have e2 : cur = [] := List.eq_nil_of_length_eq_zero (by omega)
    subst e1; subst e2
    refine ⟨?_, fin listed a w Tc Δ pre h⟩
    cases hr : Region.ready .any ops listed with
    | nil => rfl
    | cons j l =>
      have hj : j ∈ Region.ready .any ops listed := by rw [hr]; simp
      have := (h.mem j).1 (mem_ready.1 hj).1
      rcases this with h | h <;> cases h
  | succ fuel ih =>
    intro listed a w pend cur pre Tc Δ h hh hl
    have unl : ∀ j, j ∈ pend ∨ j ∈ cur → listed.getD j true = false := fun j hj => (h.mem j).2 hj
    refine ⟨fun hr => ?_, fun i hi => ?_⟩
    · have e1 : pend = [] := by
        cases pend with
        | nil => rfl
        | cons j l => exact absurd hr (some_ready listed h.lsz j j (Nat.le_refl _) (unl j (by simp)))
      have e2 : cur = [] := by
        cases cur with
        | nil => rfl
        | cons j l => exact absurd hr (some_ready listed h.lsz j j (Nat.le_refl _) (unl j (by simp)))
      subst e1; subst e2
      exact fin listed a w Tc Δ pre h
    · obtain ⟨hlf, o, ho, hready⟩ := mem_ready.1 hi
      have hlooks := h.looks ho hready
      have hnos := hok.nosel i o ho
      have hclosed : ∀ (j : Nat) (oj : Oper), ops[j]? = some oj → (listed.setIfInBounds i true).getD j false = true → ∀ e ∈ oj.after, Region.binds .any e = true →
          (listed.setIfInBounds i true).getD e.on false = true := by
        intro j oj hoj hj e he hb
        by_cases e' : i = j
        · subst e'
          rw [ho] at hoj; cases hoj
          exact getD_set_true (hready e he hb)
        · rw [getD_set_ne false e'] at hj
          exact getD_set_true (h.closed j oj hoj hj e he hb)
      have hunl : ∀ p, p ∈ pend ∨ p ∈ cur → ¬ listed.getD p false = true := fun p hp hl => by
        have hu := unl p hp
        by_cases hlt : p < listed.size
        · rw [Array.getD_eq_getD_getElem?, Array.getElem?_eq_getElem hlt] at hl hu
          simp at hl hu
          rw [hl] at hu; cases hu
        · simp [hlt] at hl
      rcases (h.mem i).1 hlf with hip | hic
      · -- carried out on paper before
        obtain ⟨o', v, hp⟩ := h.pok i hip
        have : o' = o := by have := hp.ho; rw [ho] at this; exact (Option.some.inj this).symm
        subst this
        have hst := hp.step a w (if ea.contains i then R else Δ ++ R) h.size hlooks (by
          split
          · exact h.sat
          · have := h.sat; rwa [List.append_assoc] at this)
        have hnew : wpAnyIn (FW r) 0 P .any ops (post K n w0 R) fuel (listed.setIfInBounds i true) (a.put o'.dst v) w := by
          refine ih _ _ _ (pend.erase i) cur pre Tc Δ
            { ok := h.ok, lsz := by simp [h.lsz], closed := hclosed, cut := h.cut, dr := h.dr, wt := h.wt, same := h.same, sat := h.sat
              mem := fun j => by
                constructor
                · intro hj
                  obtain ⟨hne, hj⟩ := set_true hj
                  rcases (h.mem j).1 hj with hj | hj
                  · exact .inl ((List.mem_erase_of_ne hne).2 hj)
                  · exact .inr hj
                · intro hj
                  have hne : i ≠ j := by
                    rintro rfl
                    rcases hj with hj | hj
                    · exact (List.Nodup.not_mem_erase h.pnd) hj
                    · have hnd : (pre ++ cur).Nodup := h.cut ▸ h.ok.nodup
                      exact (List.nodup_append.1 hnd).2.2 i (h.ppre i hip) i hj rfl
                  rw [getD_set_ne true hne]
                  exact (h.mem j).2 (hj.imp (fun x => List.mem_of_mem_erase x) id)
              ppre := fun j hj => h.ppre j (List.mem_of_mem_erase hj)
              pfl := fun j hj => h.pfl j (List.mem_of_mem_erase hj)
              pnd := h.pnd.erase i
              size := by cases o'.dst <;> simp [Act.put, h.size]
              defs := by cases o'.dst <;> exact h.defs
              pok := fun p hp => h.pok p (List.mem_of_mem_erase hp)
              val := fun t u ht hn => by
                cases hd : o'.dst with
                | none =>
                  refine h.val t u ht fun p hp op hop => ?_
                  by_cases e : p = i
                  · subst e; rw [ho] at hop; cases hop; rw [hd]; simp
                  · exact hn p ((List.mem_erase_of_ne e).2 hp) op hop
                | some d =>
                  by_cases e : d = t
                  · subst e
                    have hv := hp.hv d hd
                    rw [ht] at hv; cases hv
                    have hdn : d < n := by have := hp.hd; rw [hd] at this; simpa [dok] using this
                    simp [Act.put, h.size, hdn]
                  · have : (a.put (some d) v).tmps.getD t undef = a.tmps.getD t undef := by
                      simp only [Act.put, Array.getD_eq_getD_getElem?, Array.getElem?_setIfInBounds_ne e]
                    rw [this]
                    refine h.val t u ht fun p hp' op hop => ?_
                    by_cases e2 : p = i
                    · subst e2; rw [ho] at hop; cases hop; rw [hd]; simpa using e
                    · exact hn p ((List.mem_erase_of_ne e2).2 hp') op hop } hh ?_
          have := List.length_erase_of_mem hip
          have : 0 < pend.length := List.length_pos_of_mem hip
          omega
        unfold wpOpIn
        simp only [ho]
        rcases hst with ⟨hw, hrun⟩ | ⟨hw, rfl⟩
        · simp only [hw, if_true, Oper.wpIn]
          refine ⟨fun f _ => FW_fn r f, ?_⟩
          rw [Oper.semAt_eq _ _ _ hnos.2, hrun]
          exact hnew
        · simp only [hw, Bool.false_eq_true, if_false]
          exact ⟨fun f _ => FW_fn r f, hnew⟩
      · -- the next that turns the world
        rcases hh with rfl | ⟨c, rest, rfl, hcch⟩
        · cases hic
        have hnd : (pre ++ c :: rest).Nodup := h.cut ▸ h.ok.nodup
        have hieq : i = c := by
          rcases List.mem_cons.1 hic with e | hir
          · exact e
          · exfalso
            obtain ⟨r1, r2, hr⟩ := List.append_of_mem hir
            have hb := hfull (pre ++ c :: r1) i r2 (by rw [h.cut, hr]; simp) c (by simp) hcch
            exact hunl c (by simp) (bef_listed h.ok h.closed ho hready hb)
        subst hieq
        obtain ⟨o', ho', hd, hdr⟩ := h.dr
        have : o' = o := by have := nthO_ops ho'; rw [ho] at this; exact (Option.some.inj this).symm
        subst this
        have hc : ch.contains i = true := by simpa using hcch
        have hrel : Rel n Tc (fillT n Tc a) := fillT_rel h.wt
        have hl2 : ∀ t ∈ o'.looksAt ops, a.tmps.getD t undef = (fillT n Tc a).tmps.getD t undef := fun t ht => (fillT_get h.size fun u hu => hlooks t ht u hu).symm
        have e1 := looks_exec hnos.1 hl2
        have e2 := looks_want (ops := ops) (by rw [h.size, hrel.size]) hl2
        -- what has been carried out on paper stays so
        have hpk : ∀ (Δ' : List HP) (v : Value), ∀ p ∈ pend, ∃ op vp, PendOK P n ops ch ea Φ p (putT Tc o'.dst v) Δ' op vp := by
          intro Δ' v p hp
          obtain ⟨op, vp, hpo⟩ := h.pok p hp
          have hne : p ≠ i := fun e => h.pfl p hp (e ▸ hcch)
          obtain ⟨p1, p2, hpp⟩ := List.append_of_mem (h.ppre p hp)
          have hea : ea.contains p = false := by
            cases hcc : ea.contains p with
            | false => rfl
            | true =>
              have hb := h.ok.early p1 p (p2 ++ i :: rest) (by rw [h.cut, hpp]; simp) (by simpa using hcc) i (by simp) hcch
              exact absurd (bef_listed h.ok h.closed ho hready hb) (hunl p (.inl hp))
          have hk := hpo.keep (d := o'.dst) (u := v) fun e he => ⟨fun hm => by
              have hb := h.ok.names p op hpo.ho e hm i o' ho he
              exact h.ok.deps p1 p (p2 ++ i :: rest) (by rw [h.cut, hpp]; simp) i (by simp) hb,
            fun hde => hne (h.ok.dsts p i op o' e hpo.ho ho hde he)⟩
          refine ⟨op, vp, hk.ho, hk.hd, hk.hv, ?_⟩
          have := hk.step
          rw [hea] at this ⊢
          exact this
        have hnext : ∀ (v : Value) (Δ' : List HP) (w' : World), DR P n ops ch ea Φ D K rest (putT Tc o'.dst v) Δ' → Same w0 w' → sat w' (Φ ++ Δ' ++ R) →
            wpAnyIn (FW r) 0 P .any ops (post K n w0 R) fuel (listed.setIfInBounds i true) (a.put o'.dst v) w' := by
          intro v Δ' w' hdr' hs' hsat'
          obtain ⟨pend', cur', pre', Tc', h', hh', hl'⟩ := St.adv (r := r) (w0 := w0) (R := R) (listed := listed.setIfInBounds i true) (a := a.put o'.dst v) (w := w') rest pend (pre ++ [i]) (putT Tc o'.dst v) Δ'
            { ok := h.ok, lsz := by simp [h.lsz], closed := hclosed, cut := by rw [h.cut]; simp, dr := hdr', wt := h.wt.put hd v, same := hs', sat := hsat'
              mem := fun j => by
                constructor
                · intro hj
                  obtain ⟨hne, hj⟩ := set_true hj
                  rcases (h.mem j).1 hj with hj | hj
                  · exact .inl hj
                  · rcases List.mem_cons.1 hj with e | hj
                    · exact absurd e hne
                    · exact .inr hj
                · intro hj
                  have hne : i ≠ j := by
                    rintro rfl
                    rcases hj with hj | hj
                    · exact h.pfl i hj hcch
                    · exact (List.nodup_cons.1 (List.nodup_append.1 hnd).2.1).1 hj
                  rw [getD_set_ne true hne]
                  exact (h.mem j).2 (hj.imp id (fun x => List.mem_cons_of_mem _ x))
              ppre := fun j hj => List.mem_append_left _ (h.ppre j hj)
              pfl := h.pfl
              pnd := h.pnd
              size := by cases o'.dst <;> simp [Act.put, h.size]
              defs := by cases o'.dst <;> exact h.defs
              pok := hpk Δ' v
              val := fun t u ht hn => by
                cases hdd : o'.dst with
                | none => rw [hdd] at ht; exact h.val t u ht hn
                | some d =>
                  rw [hdd] at ht
                  by_cases e : d = t
                  · subst e
                    rw [tget_put_eq] at ht; cases ht
                    have hdn : d < n := by rw [hdd] at hd; simpa [dok] using hd
                    simp [Act.put, h.size, hdn]
                  · rw [tget_put_ne e] at ht
                    have : (a.put (some d) v).tmps.getD t undef = a.tmps.getD t undef := by
                      simp only [Act.put, Array.getD_eq_getD_getElem?, Array.getElem?_setIfInBounds_ne e]
                    rw [this]
                    exact h.val t u ht hn }
          exact ih _ _ _ pend' cur' pre' Tc' Δ' h' hh' (by rw [hl']; simp at hl; omega)
        unfold wpOpIn
        simp only [ho]
        rcases hdr with ⟨hc', _⟩ | ⟨_, hwt, hdr⟩ | ⟨_, hwt, Q, hop, hv, hp⟩
        · rw [hc] at hc'; cases hc'
        · have hw : Region.wanted o' (yielded ops a.tmps) = false := by rw [e2]; exact wantT_sound hrel hwt
          simp only [hw, Bool.false_eq_true, if_false]
          exact ⟨fun f _ => FW_fn r f, hnext undef Δ w hdr h.same h.sat⟩
        · have hw : Region.wanted o' (yielded ops a.tmps) = true := by rw [e2]; exact wantT_sound hrel hwt
          simp only [hw, if_true, Oper.wpIn]
          refine ⟨fun f _ => FW_fn r f, ?_⟩
          rw [Oper.semAt_eq _ _ _ hnos.2, e1]
          have hsat2 : sat w (Δ ++ (Φ ++ R)) := by
            refine sat_perm ?_ h.sat
            rw [← List.append_assoc]
            exact List.Perm.append_right R List.perm_append_comm
          have back : ∀ {w' : World} {Δ' : List HP}, sat w' (Δ' ++ (Φ ++ R)) → sat w' (Φ ++ Δ' ++ R) := fun {w' Δ'} hs => by
            refine sat_perm ?_ hs
            rw [← List.append_assoc]
            exact List.Perm.append_right R List.perm_append_comm
          refine upon_of_next (C := cpost w (Φ ++ R) Q) ?_ ?_ _ (hop.2 n _ w (Φ ++ R) hrel hsat2)
          · rintro v w' ⟨hs', Δ', q, hsat'⟩
            exact hnext v Δ' w' (hv v Δ' q) (h.same.trans hs') (back hsat')
          · rintro chn w' ⟨hs', Δ', q, hsat'⟩
            exact ⟨h.same.trans hs', [], Φ ++ Δ', h.defs ▸ hp chn Δ' q, Rel.nil h.size, back hsat'⟩

class Mixed (P : Program) : Prop where
  h : P.follows .mixedOrders = true
theorem draw_any {T : Tm} {Φ' Γ Δ : List HP} (l0 ch ea : List Nat) (hc : okDraw ops l0 ch ea = true) (p : Γ.Perm (Φ' ++ Δ)) (h : DR P n ops ch ea Φ' D K l0 T Δ) {a : Act} {w0 w : World} {R : List HP}
    (hs : Same w0 w) (hr : Rel n T a) (hd : a.defers = D) (hsat : sat w (Γ ++ R)) : wpAnyIn (FW r) 0 P .any ops (post K n w0 R) ops.size (Array.replicate ops.size false) a { w with drawn := w.drawn + 1 } := by
  obtain ⟨hok, hfull⟩ := okDraw_spec hc
  have hsat2 : sat { w with drawn := w.drawn + 1 } (Φ' ++ Δ ++ R) := sat_heap rfl (sat_perm (List.Perm.append_right R p) hsat)
  obtain ⟨pend', cur', pre', Tc', h', hh', hl'⟩ := St.adv (r := r) (w0 := w0) (R := R) (listed := Array.replicate ops.size false) (a := a) (w := { w with drawn := w.drawn + 1 }) l0 [] [] T Δ
    { ok := hok, lsz := by simp, cut := rfl, dr := h, size := hr.size, defs := hd, same := ⟨hs.tape, hs.os, hs.output, hs.size⟩, sat := hsat2, pnd := List.nodup_nil
      mem := fun j => by
        simp only [List.not_mem_nil, false_or]
        rw [hok.mem j]
        constructor
        · intro hj
          rcases Nat.lt_or_ge j ops.size with h' | h'
          · exact h'
          · simp [Nat.not_lt.2 h'] at hj
        · intro hj; simp [hj]
      closed := fun j o ho hj => by
        have hlt : j < ops.size := (Array.getElem?_eq_some_iff.1 ho).1
        simp [hlt] at hj
      ppre := fun j hj => by cases hj
      pfl := fun j hj => by cases hj
      wt := fun t v ht => by
        rcases Nat.lt_or_ge t n with h' | h'
        · exact .inl h'
        · right
          have := hr.val t v ht
          rw [Array.getD_eq_getD_getElem?, Array.getElem?_eq_none (by rw [hr.size]; exact h')] at this
          exact this.symm
      val := fun t v ht _ => hr.val t v ht
      pok := fun j hj => by cases hj }
  refine drawn_main hok (hfull rfl) _ _ _ _ pend' cur' pre' Tc' Δ h' hh' ?_
  rw [hl']
  have : l0.length ≤ ops.size := by
    have h1 : l0.Nodup := hok.nodup
    have h2 : l0 ⊆ List.range ops.size := fun x hx => List.mem_range.2 ((hok.mem x).1 hx)
    simpa using (List.Nodup.length_le_of_subset h1 h2)
  simpa using this
/-- A region whose order is drawn, by one walk in the order l0. ch: what turns the world; ea: what only looks, and comes ahead of all that turns the world behind it in l0. -/
theorem SC_draw [m : Mixed P] {id : Nat} {T : Tm} {Φ' Γ Δ : List HP} (l0 ch ea : List Nat) (hc : okDraw ops l0 ch ea = true) (p : Γ.Perm (Φ' ++ Δ)) (h : DR P n ops ch ea Φ' D K l0 T Δ) :
    SC P r n (.region id ops true) T D Γ K := by
  intro a w0 w R hs hr hd hsat
  exact wpIn_region_any m.h (draw_any l0 ch ea hc p h hs hr hd hsat)
end
end Go.Proofs.Ytdganbddgobfdaa
