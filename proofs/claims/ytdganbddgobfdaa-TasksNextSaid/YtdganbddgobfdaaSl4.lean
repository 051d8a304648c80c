/- The rules for operations that read and write memory, and for calls. -/
import Derived.Test.YtdganbddgobfdaaSl3
namespace Go.Proofs.Ytdganbddgobfdaa

section
variable {P : Program} {t : TypeId} {d : TypeDesc} {sz bs : Nat} {z : Value}
theorem TOK.inf (k : TOK P t d sz bs z) : ∃ i, P.info? t = some i ∧ i.size = sz ∧ i.bytes = bs ∧ i.zero = some z := by
  have := k.info
  cases h : P.info? t with
  | none => rw [h] at this; cases this
  | some i =>
    rw [h] at this
    simp only [Option.map_some, Option.some.injEq, Prod.mk.injEq] at this
    exact ⟨i, rfl, this.1, this.2.1, this.2.2⟩
theorem TOK.run_und (k : TOK P t d sz bs z) (w : World) : (underlying t).run P w = .ok d w := by
  simp [underlying, program, Sem.run, k.und]
theorem TOK.run_size (k : TOK P t d sz bs z) (w : World) : (sizeOf t).run P w = .ok sz w := by
  obtain ⟨i, h1, h2, _, _⟩ := k.inf
  simp [_root_.Go.sizeOf, typeInfo, program, Sem.run, h1, h2]
theorem TOK.run_zero (k : TOK P t d sz bs z) (w : World) : (zeroValue t).run P w = .ok z w := by
  obtain ⟨i, h1, _, _, h2⟩ := k.inf
  simp [zeroValue, typeInfo, program, Sem.run, h1, h2]
theorem TOK.run_bytes (k : TOK P t d sz bs z) (w : World) : ∃ i, (typeInfo t).run P w = .ok i w ∧ i.bytes = bs ∧ i.size = sz := by
  obtain ⟨i, h1, h3, h2, _⟩ := k.inf
  exact ⟨i, by simp [typeInfo, program, Sem.run, h1], h2, h3⟩
end
theorem FLD.of {P : Program} {t : TypeId} {i off : Nat} (k : FLD P t i off) : ∃ fs fl, P.underlying t = some (.struct fs) ∧ fs[i]? = some fl ∧ fl.offset = off ∧ ∃ inf, P.info? fl.type = some inf ∧ inf.size ≠ 0 := by
  have h := k.h
  unfold fldOff at h
  split at h
  · rename_i fs hf
    split at h
    · rename_i fl hl
      split at h
      · rename_i inf hi
        split at h
        · cases h
        · rename_i m hm
          exact ⟨fs, fl, hf, hl, Option.some.inj h, inf, hi, by omega⟩
      · cases h
    · cases h
  · cases h
class SLC (P : Program) (t : TypeId) (el : outParam TypeId) (sz : outParam Nat) : Prop where
  und : P.underlying t = some (.slice el)
  size : ∃ inf, P.info? el = some inf ∧ inf.size = sz
class ARR (P : Program) (t : TypeId) (len : outParam Nat) (el : outParam TypeId) (sz : outParam Nat) : Prop where
  und : P.underlying t = some (.array len el)
  size : ∃ inf, P.info? el = some inf ∧ inf.size = sz
instance SLC.of {P : Program} {t el : TypeId} {sz bs sz' bs' : Nat} {z z' : Value} {d' : TypeDesc} [k : TOK P t (.slice el) sz bs z] [k' : TOK P el d' sz' bs' z'] : SLC P t el sz' :=
  ⟨k.und, by obtain ⟨i, h1, h2, _⟩ := k'.inf; exact ⟨i, h1, h2⟩⟩
instance ARR.of {P : Program} {t el : TypeId} {len sz bs sz' bs' : Nat} {z z' : Value} {d' : TypeDesc} [k : TOK P t (.array len el) sz bs z] [k' : TOK P el d' sz' bs' z'] : ARR P t len el sz' :=
  ⟨k.und, by obtain ⟨i, h1, h2, _⟩ := k'.inf; exact ⟨i, h1, h2⟩⟩
theorem run_und' {P : Program} {t : TypeId} {d : TypeDesc} (h : P.underlying t = some d) (w : World) : (underlying t).run P w = .ok d w := by
  simp [underlying, program, Sem.run, h]
theorem run_size' {P : Program} {t : TypeId} {sz : Nat} (h : ∃ inf, P.info? t = some inf ∧ inf.size = sz) (w : World) : (sizeOf t).run P w = .ok sz w := by
  obtain ⟨i, h1, h2⟩ := h
  simp [_root_.Go.sizeOf, typeInfo, program, Sem.run, h1, h2]
def isAggD : TypeDesc → Bool
  | .struct _ => true
  | .array _ _ => true
  | _ => false
section
variable {P : Program} {t : TypeId} {d : TypeDesc} {sz bs : Nat} {z : Value}
theorem TOK.run_isAgg (k : TOK P t d sz bs z) (w : World) : (isAgg t).run P w = .ok (isAggD d) w := by
  simp only [isAgg, Sem.run_bind, k.run_und, Result.andThen_ok]
  cases d <;> rfl
end

theorem addr_add (b off n : Nat) : (⟨b, off, none⟩ : Addr).add n = ⟨b, off + n, none⟩ := by
  unfold Addr.add; split
  · rename_i h; subst h; rfl
  · rfl

theorem run_loadCellsFrom {P : Program} {w : World} {b off : Nat} {c : Array Value} {t : TypeId} {f : Nat × Nat} (h : w.heap[b]? = some (.cells c t f)) :
    ∀ (n i : Nat) (acc : Array Value), off + i + n ≤ c.size → (loadCellsFrom ⟨b, off, none⟩ i n acc).run P w = .ok (acc ++ c.extract (off + i) (off + i + n)) w := by
  intro n
  induction n with
  | zero => intro i acc _; simp [loadCellsFrom]; omega
  | succ n ih =>
    intro i acc hle
    have hlt : off + i < c.size := by omega
    have hc := cell_of (off := off + i) h
    rw [Array.getElem?_eq_getElem hlt] at hc
    simp only [loadCellsFrom, addr_add, Sem.run_bind, load, Sem.run, hc, Result.andThen_ok]
    rw [ih (i + 1) _ (by omega)]
    congr 1
    apply Array.ext'
    simp only [Array.toList_append, Array.toList_push, Array.toList_extract, List.append_assoc]
    congr 1
    rw [List.extract_eq_take_drop, List.extract_eq_take_drop]
    have e1 : off + i + (n + 1) - (off + i) = n + 1 := by omega
    have e2 : off + (i + 1) + n - (off + (i + 1)) = n := by omega
    have e3 : c.toList.drop (off + i) = c[off + i] :: c.toList.drop (off + (i + 1)) := by
      rw [List.drop_eq_getElem_cons (by simpa using hlt)]; rfl
    rw [e1, e2, e3]; rfl
theorem run_loadCells {P : Program} {w : World} {b off n : Nat} {c : Array Value} {t : TypeId} {f : Nat × Nat} (h : w.heap[b]? = some (.cells c t f)) (hle : off + n ≤ c.size) :
    (loadCells ⟨b, off, none⟩ n).run P w = .ok ((c.toList.drop off).take n).toArray w := by
  unfold loadCells
  rw [run_loadCellsFrom h n 0 #[] (by omega)]
  congr 1
  apply Array.ext'
  simp [List.extract_eq_take_drop]

def setc (l : List Value) : Nat → List Value → List Value
  | _, [] => l
  | off, v :: vs => setc (l.set off v) (off + 1) vs
theorem setc_length : ∀ (vs : List Value) (l : List Value) (off : Nat), (setc l off vs).length = l.length
  | [], _, _ => rfl
  | v :: vs, l, off => by simp [setc, setc_length vs]

theorem run_storeCells {P : Program} {b : Nat} {t : TypeId} {f : Nat × Nat} : ∀ (vs : List Value) (w : World) (off i : Nat) (c : Array Value), w.heap[b]? = some (.cells c t f) →
    off + i + vs.length ≤ c.size → (∀ j, off + i ≤ j → j < off + i + vs.length → ¬ (f.1 ≤ j ∧ j < f.2)) → (∀ v ∈ vs, plainV v = true) →
    ∃ w', (storeCells ⟨b, off, none⟩ vs i).run P w = .ok () w' ∧ Same w w' ∧ w'.heap[b]? = some (.cells (setc c.toList (off + i) vs).toArray t f) ∧ ∀ d, d ≠ b → w'.heap[d]? = w.heap[d]? := by
  intro vs
  induction vs with
  | nil =>
    intro w off i c h _ _ _
    exact ⟨w, by simp [storeCells], Same.refl w, by simpa [setc] using h, fun _ _ => rfl⟩
  | cons v vs ih =>
    intro w off i c h hle hfr hp
    have hlt : off + i < c.size := by simp at hle; omega
    have hc := cell_of (off := off + i) h
    rw [Array.getElem?_eq_getElem hlt] at hc
    have hff : w.frozen? ⟨b, off + i, none⟩ = false := by
      have := hfr (off + i) (Nat.le_refl _) (by simp)
      simp only [World.frozen?, h]
      rw [Bool.and_eq_false_iff]
      by_cases h1 : f.1 ≤ off + i
      · right; simp; omega
      · left; simp; omega
    have hv := hp v (by simp)
    have hrun : (store ⟨b, off + i, none⟩ v).run P w = .ok () (w.setCell ⟨b, off + i, none⟩ v) := by
      cases v with
      | agg cs => cases hv
      | tuple vs => cases hv
      | _ => simp only [store, Sem.run, hc, hff]; rfl
    have h1 : (w.setCell ⟨b, off + i, none⟩ v).heap[b]? = some (.cells (c.setIfInBounds (off + i) v) t f) := by
      simp [World.setCell, Array.getElem?_modify, h]
    obtain ⟨w', hr, hs, hb, ho⟩ := ih (w.setCell ⟨b, off + i, none⟩ v) off (i + 1) _ h1 (by simp at hle ⊢; omega) (fun j h1 h2 => hfr j (by omega) (by simp; omega)) (fun u hu => hp u (by simp [hu]))
    refine ⟨w', ?_, Same.trans (b := w.setCell ⟨b, off + i, none⟩ v) ⟨rfl, rfl, rfl, by simp [World.setCell]⟩ hs, ?_, ?_⟩
    · simp only [storeCells, addr_add, Sem.run_bind, hrun, Result.andThen_ok]; exact hr
    · rw [hb]; simp [setc, Nat.add_assoc]
    · intro d hd; rw [ho d hd]; simp [World.setCell, Array.getElem?_modify, Ne.symm hd]

/-! from an answer's steps to an operation -/
def ofSOut {α : Type} (f : α → Value) (Q : Out → List HP → Prop) : SOut α → List HP → Prop
  | .ok x, Γ => Q (.ok (f x)) Γ
  | .panic v, Γ => Q (.panics [{ v, recovered := false }]) Γ
abbrev det (v : Value) (Γ₁ : List HP) : Out → List HP → Prop := fun e Γ' => e = .ok v ∧ Γ' = Γ₁
section
variable {P : Program} {o : Oper} {T : Tm} {Γ : List HP}
theorem SOp_v {Q : Out → List HP → Prop} (hd : ∀ c, o.op ≠ .defer c) (h : ∀ n a, Rel n T a → ∃ s : Sem Value, execOp a.eval o = (do pure (.value (← s))) ∧ SR P s Γ (ofSOut id Q)) : SOp P o T Γ Q := by
  refine ⟨hd, fun n a w R hr hsat => ?_⟩
  obtain ⟨s, e, hs⟩ := h n a hr
  rw [e, Sem.run_bind]
  have := hs w R hsat
  cases hrun : s.run P w with
  | ok x w' => rw [hrun] at this; exact this
  | halt e w' =>
    rw [hrun] at this
    cases e with
    | panic v => exact this
    | _ => exact this.elim
theorem SOp_u {Q : Out → List HP → Prop} (hd : ∀ c, o.op ≠ .defer c) (h : ∀ n a, Rel n T a → ∃ s : Sem Unit, execOp a.eval o = (do s; pure .skip) ∧ SR P s Γ (ofSOut (fun _ => undef) Q)) : SOp P o T Γ Q := by
  refine ⟨hd, fun n a w R hr hsat => ?_⟩
  obtain ⟨s, e, hs⟩ := h n a hr
  rw [e, Sem.run_bind]
  have := hs w R hsat
  cases hrun : s.run P w with
  | ok x w' => rw [hrun] at this; exact this
  | halt e w' =>
    rw [hrun] at this
    cases e with
    | panic v => exact this
    | _ => exact this.elim
/-- What runs without turning the world. -/
def SQ (P : Program) (o : Oper) (T : Tm) (Γ : List HP) (v : Value) : Prop :=
  (∀ c, o.op ≠ .defer c) ∧ ∀ n a w R, Rel n T a → sat w (Γ ++ R) → (execOp a.eval o).run P w = .ok (.value v) w
theorem SQ.op {v : Value} (h : SQ P o T Γ v) : SOp P o T Γ (det v Γ) := by
  refine ⟨h.1, fun n a w R hr hsat => ?_⟩
  rw [h.2 n a w R hr hsat]
  exact ⟨Same.refl w, Γ, ⟨rfl, rfl⟩, hsat⟩
theorem SQ_pure {v : Value} (h : pureVal T o = some v) : SQ P o T Γ v := by
  refine ⟨fun c hc => ?_, fun n a w R hr hsat => pureVal_ok h hr w⟩
  unfold pureVal at h; rw [hc] at h; cases h
variable {t : TypeId} {d : TypeDesc} {sz bs : Nat} {z : Value} {x y : Operand}

theorem SQ_load {b off : Nat} {c : Array Value} {et : TypeId} {f : Nat × Nat} {v : Value} (ho : o.op = .load t x) [k : TOK P t d sz bs z] (hx : evT T x = some (.pointer (some ⟨b, off, none⟩)))
    [kr : Reads Γ b (.cells c et f)] (hna : isAggD d = false) (hv : c.toList[off]? = some v) : SQ P o T Γ v := by
  refine ⟨(by rw [ho]; intro c h; cases h), fun n a w R hr hsat => ?_⟩
  have hc := cell_of (off := off) (kr.h w R hsat)
  rw [show c[off]? = some v from by simpa using hv] at hc
  simp [execOp, ho, hr.eval hx, Instr.loadAt, Instr.sureAddr, loadVar, k.run_isAgg, hna, load, Sem.run, hc]
theorem SQ_loadA {b off : Nat} {c : Array Value} {et : TypeId} {f : Nat × Nat} (ho : o.op = .load t x) [k : TOK P t d sz bs z] (hx : evT T x = some (.pointer (some ⟨b, off, none⟩)))
    [kr : Reads Γ b (.cells c et f)] (hna : isAggD d = true) (hv : off + sz ≤ c.toList.length) : SQ P o T Γ (.agg ((c.toList.drop off).take sz).toArray) := by
  refine ⟨(by rw [ho]; intro c h; cases h), fun n a w R hr hsat => ?_⟩
  have hc := run_loadCells (P := P) (kr.h w R hsat) (show off + sz ≤ c.size from by simpa using hv)
  simp [execOp, ho, hr.eval hx, Instr.loadAt, Instr.sureAddr, loadVar, k.run_isAgg, hna, k.run_size, hc]
theorem SOp_storeG {b off : Nat} {c : Array Value} {et : TypeId} {f : Nat × Nat} {v : Value} {vs : List Value} {mk : HP → List HP} (ho : o.op = .store t x y) [k : TOK P t d sz bs z]
    (hx : evT T x = some (.pointer (some ⟨b, off, none⟩))) (hy : evT T y = some v) [ku : Upd Γ b (.cells c et f) mk] (hvs : v.cells.toList = vs) (hsz : vs.length = sz) (hpl : ∀ u ∈ vs, plainV u = true)
    (hoff : off + sz ≤ c.toList.length) (hfr : f.2 ≤ f.1 ∨ off + sz ≤ f.1) : SOp P o T Γ (det undef (mk (pt b (.cells (setc c.toList off vs).toArray et f)))) := by
  refine ⟨(by rw [ho]; intro c h; cases h), fun n a w R hr hsat => ?_⟩
  have hb := ku.get w R hsat
  obtain ⟨w', hrun, hs, h1, h2⟩ := run_storeCells (P := P) vs w off 0 c hb (by rw [hsz]; simpa using hoff) (fun j h1 h2 => by omega) hpl
  have e : (execOp a.eval o).run P w = .ok .skip w' := by
    simp only [execOp, ho, hr.eval hx, hr.eval hy, Instr.storeAt, Instr.sureAddr, storeVar, Sem.run_bind, k.run_size, Result.andThen_ok, Sem.run_pure, hvs]
    rw [if_neg (by rw [← Array.length_toList, hvs, hsz]; simp)]
    rw [hrun]; rfl
  rw [e]
  exact ⟨hs, _, ⟨rfl, rfl⟩, ku.set w R hsat w' _ (by rw [h1]; rfl) h2⟩
def frOK (f : Nat × Nat) (off sz : Nat) : Bool :=
  match Nat.ble f.2 f.1 with
  | true => true
  | false => Nat.ble (off + sz) f.1
theorem frOK_ok {f : Nat × Nat} {off sz : Nat} (h : frOK f off sz = true) : f.2 ≤ f.1 ∨ off + sz ≤ f.1 := by
  unfold frOK at h
  split at h
  · rename_i h1; exact .inl (Nat.le_of_ble_eq_true h1)
  · exact .inr (Nat.le_of_ble_eq_true h)
theorem SOp_store {b off : Nat} {c : Array Value} {et : TypeId} {f : Nat × Nat} {v : Value} {mk : HP → List HP} (ho : o.op = .store t x y) [k : TOK P t d sz bs z]
    (hx : evT T x = some (.pointer (some ⟨b, off, none⟩))) (hy : evT T y = some v) [ku : Upd Γ b (.cells c et f) mk] (hsz : sz = 1) (hpl : plainV v = true)
    (hoff' : Nat.blt off c.toList.length = true) (hfr' : frOK f off 1 = true) : SOp P o T Γ (det undef (mk (pt b (.cells (c.toList.set off v).toArray et f)))) := by
  have hoff : off < c.toList.length := Nat.lt_of_succ_le (Nat.le_of_ble_eq_true hoff')
  have hfr := frOK_ok hfr'
  subst hsz
  have e : v.cells.toList = [v] := by cases v <;> first | rfl | cases hpl
  exact SOp_storeG (k := k) (ku := ku) ho hx hy e rfl (by simpa using hpl) (by omega) hfr

theorem SOp_alloc {cs : List Value} (ho : o.op = .alloc t) [k : TOK P t d sz bs z] (hz : z.cells.toList = cs) :
    SOp P o T Γ fun e Γ' => ∃ b, e = .ok (.pointer (some ⟨b, 0, none⟩)) ∧ Γ' = pt b (.cells cs.toArray t (0, 0)) :: Γ := by
  refine SOp_v (by rw [ho]; intro c h; cases h) fun n a hr => ⟨Instr.alloc t true (.tuple #[]), by simp only [execOp, ho], ?_⟩
  unfold Instr.alloc
  refine SR_bind (SR_run (fun w R _ => k.run_zero w) ?_)
  show SR P _ _ _
  refine SR_bind ?_
  unfold newVar newRow
  refine SR_bind (SR_new fun b => ?_)
  refine SR_pure ?_
  refine SR_pure ⟨b, rfl, ?_⟩
  subst hz; rfl
theorem SOp_box {v : Value} {cs : List Value} (ho : o.op = .box t x) (hx : evT T x = some v) (hz : v.cells.toList = cs) :
    SOp P o T Γ fun e Γ' => ∃ b, e = .ok (.pointer (some ⟨b, 0, none⟩)) ∧ Γ' = pt b (.cells cs.toArray t (0, 0)) :: Γ := by
  refine SOp_v (by rw [ho]; intro c h; cases h) fun n a hr => ⟨Instr.box t (a.eval x), by simp only [execOp, ho], ?_⟩
  rw [hr.eval hx]
  unfold Instr.box
  refine SR_bind ?_
  unfold newVar newRow
  refine SR_bind (SR_new fun b => ?_)
  refine SR_pure ?_
  refine SR_pure ⟨b, rfl, ?_⟩
  subst hz; rfl
theorem SQ_fieldAddr {b off i fo : Nat} (ho : o.op = .fieldAddr t x i) [k : FLD P t i fo]
    (hx : evT T x = some (.pointer (some ⟨b, off, none⟩))) : SQ P o T Γ (.pointer (some ⟨b, off + fo, none⟩)) := by
  refine ⟨(by rw [ho]; intro c h; cases h), fun n a w R hr hsat => ?_⟩
  obtain ⟨fs, fl, h1, h2, h3, inf, h4, h5⟩ := k.of
  have h6 := run_size' (P := P) (t := fl.type) ⟨inf, h4, rfl⟩ w
  simp [execOp, ho, hr.eval hx, Instr.fieldAt, Instr.sureAddr, run_und' h1, h2, fieldPlace, h6, h5, addr_add, h3]
theorem SQ_index {b off len cap : Nat} {el : TypeId} {i : Int} {kk : IntKind} {sz' : Nat} (ho : o.op = .indexAddr t x y) [k : SLC P t el sz']
    (hx : evT T x = some (.slice (some ⟨b, off, none⟩) len cap)) (hy : evT T y = some (.int kk i)) (h0 : 0 ≤ i) (h1 : i < len) :
    SQ P o T Γ (.pointer (some ⟨b, off + i.toNat * sz', none⟩)) := by
  refine ⟨(by rw [ho]; intro c h; cases h), fun n a w R hr hsat => ?_⟩
  simp [execOp, ho, hr.eval hx, hr.eval hy, Instr.indexAt, asIntOf, run_und' k.und, h0, h1, run_size' k.size, addr_add]
theorem SQ_indexA {b off len : Nat} {el : TypeId} {i : Int} {kk : IntKind} {sz' : Nat} (ho : o.op = .indexAddr t x y) [k : ARR P t len el sz']
    (hx : evT T x = some (.pointer (some ⟨b, off, none⟩))) (hy : evT T y = some (.int kk i)) (h0 : 0 ≤ i) (h1 : i < len) :
    SQ P o T Γ (.pointer (some ⟨b, off + i.toNat * sz', none⟩)) := by
  refine ⟨(by rw [ho]; intro c h; cases h), fun n a w R hr hsat => ?_⟩
  simp [execOp, ho, hr.eval hx, hr.eval hy, Instr.indexAt, Instr.sureAddr, asIntOf, run_und' k.und, h0, h1, run_size' k.size, addr_add]
def lenV : TypeDesc → Value → Option Nat
  | .string, .string s => some s.size
  | .slice _, .slice _ n _ => some n
  | .array n _, _ => some n
  | .map _ _, .map none => some 0
  | _, _ => none
theorem SQ_len {v : Value} {m : Nat} (ho : o.op = .call { callee := .builtin .len, args := #[x], argTypes := #[t] }) [k : TOK P t d sz bs z]
    (hx : evT T x = some v) (hl : lenV d v = some m) : SQ P o T Γ (.int .i64 m) := by
  refine ⟨(by rw [ho]; intro c h; cases h), fun n a w R hr hsat => ?_⟩
  simp only [execOp, ho, resolve, invoke, Sem.run_bind, Sem.run_pure, Result.andThen_ok, builtin, List.map_toArray, List.map_cons, List.map_nil, hr.eval hx, Builtin.len_]
  unfold lenV at hl
  split at hl <;> cases hl <;> simp [k.run_und, goInt]
theorem SQ_lenMap {r : Nat} {ky el : TypeId} {es : Array MapEntry} {cl : Nat} (ho : o.op = .call { callee := .builtin .len, args := #[x], argTypes := #[t] }) [k : TOK P t d sz bs z]
    (hx : evT T x = some (.map (some r))) (hd : d = .map ky el) [kr : Reads Γ r (.map es cl)] : SQ P o T Γ (.int .i64 es.size) := by
  refine ⟨(by rw [ho]; intro c h; cases h), fun n a w R hr hsat => ?_⟩
  subst hd
  simp [execOp, ho, resolve, invoke, builtin, hr.eval hx, Builtin.len_, k.run_und, goInt, getObj, Sem.run, kr.h w R hsat]
theorem SQ_conv {s : TypeId} {d' : TypeDesc} {sz' bs' : Nat} {z' : Value} {kk k2 : IntKind} {i : Int} (ho : o.op = .convert s t x) [k1 : TOK P s d' sz' bs' z'] [k : TOK P t d sz bs z]
    (hx : evT T x = some (.int kk i)) (hd : d = .int k2) : SQ P o T Γ (.int k2 (k2.wrap i)) := by
  refine ⟨(by rw [ho]; intro c h; cases h), fun n a w R hr hsat => ?_⟩
  subst hd
  simp [execOp, ho, convert, hr.eval hx, k1.run_und, k.run_und, Conv.intToInt]
def notIface : TypeDesc → Bool
  | .interface _ => false
  | _ => true
theorem SQ_mkIface {v : Value} (ho : o.op = .makeInterface t x) [k : TOK P t d sz bs z] (hx : evT T x = some v) (hd : notIface d = true) : SQ P o T Γ (.iface t v) := by
  refine ⟨(by rw [ho]; intro c h; cases h), fun n a w R hr hsat => ?_⟩
  simp only [execOp, ho, hr.eval hx, Instr.makeInterface, Sem.run_bind, k.run_und, Result.andThen_ok]
  cases d <;> first | rfl | cases hd
def nilEq : TypeDesc → Value → Value → Option Bool
  | .pointer _, .pointer none, .pointer none => some true
  | .pointer _, .pointer (some _), .pointer none => some false
  | .slice _, .slice none _ _, .slice none _ _ => some true
  | .slice _, .slice (some _) _ _, .slice none _ _ => some false
  | .map _ _, .map none, .map none => some true
  | .map _ _, .map (some _), .map none => some false
  | .func _ _ _, .nilFunc, .nilFunc => some true
  | .func _ _ _, .func _ _ _, .nilFunc => some false
  | .interface _, .nilIface, .nilIface => some true
  | .interface _, .iface _ _, .nilIface => some false
  | .bool, .bool a, .bool b => some (a == b)
  | _, _, _ => none
theorem nilEq_ok {w : World} {u v : Value} {e : Bool} (k : TOK P t d sz bs z) (h : nilEq d u v = some e) : (Op.equal t u v).run P w = .ok e w := by
  unfold Op.equal Op.maxDepth
  rw [show (10000 : Nat) = 9999 + 1 from rfl]
  unfold Op.equalIn
  simp only [Sem.run_bind, k.run_und, Result.andThen_ok]
  unfold nilEq at h
  split at h <;> cases h <;> rfl
theorem eqGuard_nil {w : World} {op : BinOp} {u v : Value} {e : Bool} (h : nilEq d u v = some e) :
    (eqGuard op t x (.const v) u v).run P w = .ok () w := by
  unfold nilEq at h
  split at h <;> cases h
  all_goals (unfold eqGuard; cases op <;> first | rfl | simp)
theorem SQ_eqNil {u v : Value} {e : Bool} {t' : TypeId} (ho : o.op = .binOp .eql t x (.const v) t') [k : TOK P t d sz bs z] (hx : evT T x = some u)
    (he : nilEq d u v = some e) : SQ P o T Γ (.bool e) := by
  refine ⟨(by rw [ho]; intro c h; cases h), fun n a w R hr hsat => ?_⟩
  have e1 := nilEq_ok (w := w) k he
  have e2 : (binOp .eql t u v).run P w = .ok (.bool e) w := by
    have : binOp .eql t u v = (do pure (.bool (← Op.equal t u v))) := by unfold nilEq at he; split at he <;> cases he <;> rfl
    rw [this, Sem.run_bind, e1]; rfl
  have e3 : a.eval (.const v) = v := rfl
  simp only [execOp, ho, hr.eval hx, e3, Sem.run_bind, eqGuard_nil he, Result.andThen_ok, e2]
  rfl
theorem SQ_neNil {u v : Value} {e : Bool} {t' : TypeId} (ho : o.op = .binOp .neq t x (.const v) t') [k : TOK P t d sz bs z] (hx : evT T x = some u)
    (he : nilEq d u v = some e) : SQ P o T Γ (.bool (!e)) := by
  refine ⟨(by rw [ho]; intro c h; cases h), fun n a w R hr hsat => ?_⟩
  have e1 := nilEq_ok (w := w) k he
  have e2 : (binOp .neq t u v).run P w = .ok (.bool (!e)) w := by
    have : binOp .neq t u v = (do pure (.bool (!(← Op.equal t u v)))) := by unfold nilEq at he; split at he <;> cases he <;> rfl
    rw [this, Sem.run_bind, e1]; rfl
  have e3 : a.eval (.const v) = v := rfl
  simp only [execOp, ho, hr.eval hx, e3, Sem.run_bind, eqGuard_nil he, Result.andThen_ok, e2]
  rfl
theorem SQ_eqBool {u v : Bool} {t' : TypeId} (ho : o.op = .binOp .eql t x y t') [k : TOK P t d sz bs z] (hd : d = .bool) (hx : evT T x = some (.bool u)) (hy : evT T y = some (.bool v)) :
    SQ P o T Γ (.bool (u == v)) := by
  refine ⟨(by rw [ho]; intro c h; cases h), fun n a w R hr hsat => ?_⟩
  subst hd
  have e1 := nilEq_ok (w := w) (u := .bool u) (v := .bool v) k rfl
  simp only [execOp, ho, hr.eval hx, hr.eval hy, Sem.run_bind, eqGuard_quiet (.inl (show Value.bool u ≠ .nilIface by simp)) (by intro _ _ h; cases h), Result.andThen_ok, binOp, e1]
  rfl
theorem SQ_neBool {u v : Bool} {t' : TypeId} (ho : o.op = .binOp .neq t x y t') [k : TOK P t d sz bs z] (hd : d = .bool) (hx : evT T x = some (.bool u)) (hy : evT T y = some (.bool v)) :
    SQ P o T Γ (.bool (!(u == v))) := by
  refine ⟨(by rw [ho]; intro c h; cases h), fun n a w R hr hsat => ?_⟩
  subst hd
  have e1 := nilEq_ok (w := w) (u := .bool u) (v := .bool v) k rfl
  simp only [execOp, ho, hr.eval hx, hr.eval hy, Sem.run_bind, eqGuard_quiet (.inl (show Value.bool u ≠ .nilIface by simp)) (by intro _ _ h; cases h), Result.andThen_ok, binOp, e1]
  rfl
theorem SOp_call {c : Call} {fx : Operand} {fv : Value} {args : List Value} {Q : Out → List HP → Prop} (ho : o.op = .call c) (hc : c.callee = .value fx) (hf : evT T fx = some fv)
    (ha : argsT T c.args.toList = some args) (h : SV P fv args Γ Q) : SOp P o T Γ Q := by
  refine ⟨(by rw [ho]; intro c h; cases h), fun n a w R hr hsat => ?_⟩
  have e : c.args.map a.eval = args.toArray := Array.toList_inj.1 (by rw [Array.toList_map]; exact hr.args ha)
  have := h w R hsat
  simp only [execOp, ho, resolve, hc, hr.eval hf, e]
  exact this
end

section
variable {P : Program} {r : Option Nat} {n : Nat} {ops : Array Oper} {T : Tm} {D : List Deferred} {Γ : List HP} {K : Exit → Tm → List Deferred → List HP → Prop}
theorem SOps_q {i dd : Nat} {l : List Nat} {o : Oper} {v : Value} (ho : nthO ops.toList i = some o) (hw : wantT ops T o = some true) (hd : o.dst = some dd) (hlt : Nat.blt dd n = true)
    (hop : SQ P o T Γ v) (h : SOps P r n ops l ((dd, v) :: T) D Γ K) : SOps P r n ops (i :: l) T D Γ K :=
  SOps_opD ho hw hd hlt hop.op (fun _ _ ⟨e, g⟩ => by cases e; cases g; exact h) (fun _ _ ⟨e, _⟩ => by cases e)
theorem SOps_det {i dd : Nat} {l : List Nat} {o : Oper} {v : Value} {Γ₁ : List HP} (ho : nthO ops.toList i = some o) (hw : wantT ops T o = some true) (hd : o.dst = some dd) (hlt : Nat.blt dd n = true)
    (hop : SOp P o T Γ (det v Γ₁)) (h : SOps P r n ops l ((dd, v) :: T) D Γ₁ K) : SOps P r n ops (i :: l) T D Γ K :=
  SOps_opD ho hw hd hlt hop (fun _ _ ⟨e, g⟩ => by cases e; cases g; exact h) (fun _ _ ⟨e, _⟩ => by cases e)
theorem SOps_detN {i : Nat} {l : List Nat} {o : Oper} {v : Value} {Γ₁ : List HP} (ho : nthO ops.toList i = some o) (hw : wantT ops T o = some true) (hd : o.dst = none)
    (hop : SOp P o T Γ (det v Γ₁)) (h : SOps P r n ops l T D Γ₁ K) : SOps P r n ops (i :: l) T D Γ K :=
  SOps_opN ho hw hd hop (fun _ _ ⟨e, g⟩ => by cases e; cases g; exact h) (fun _ _ ⟨e, _⟩ => by cases e)
theorem SOps_new {i dd : Nat} {l : List Nat} {o : Oper} {vf : Nat → Value} {Γf : Nat → List HP} (ho : nthO ops.toList i = some o) (hw : wantT ops T o = some true) (hd : o.dst = some dd) (hlt : Nat.blt dd n = true)
    (hop : SOp P o T Γ fun e Γ' => ∃ b, e = .ok (vf b) ∧ Γ' = Γf b) (h : ∀ b, SOps P r n ops l ((dd, vf b) :: T) D (Γf b) K) : SOps P r n ops (i :: l) T D Γ K :=
  SOps_opD ho hw hd hlt hop (fun _ _ ⟨b, e, g⟩ => by cases e; cases g; exact h b) (fun _ _ ⟨b, e, _⟩ => by cases e)
end
end Go.Proofs.Ytdganbddgobfdaa
