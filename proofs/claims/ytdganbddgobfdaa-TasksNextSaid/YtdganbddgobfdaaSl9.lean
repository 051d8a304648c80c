/- More operations: what is put together, made, cut, appended; types asked for. -/
import Derived.Test.YtdganbddgobfdaaSl8
namespace Go.Proofs.Ytdganbddgobfdaa
section
variable {P : Program} {o : Oper} {T : Tm} {Γ : List HP} {t : TypeId} {d : TypeDesc} {sz bs : Nat} {z : Value} {x y : Operand}

/-! structs put together -/
def fillL (ps : Nat → Option (Nat × Nat)) : List Value → List (Nat × Value) → Option (List Value)
  | cells, [] => some cells
  | cells, (i, v) :: rest => match ps i with
    | none => none
    | some (off, size) => match Nat.beq v.cells.toList.length size && Nat.ble (off + size) cells.length with
      | true => fillL ps (setc cells off v.cells.toList) rest
      | false => none
theorem foldl_setc : ∀ (vs : List Value) (c : Array Value) (off j : Nat), ((vs.zipIdx j).foldl (fun cs (p : Value × Nat) => cs.setIfInBounds (off + p.2) p.1) c) = (setc c.toList (off + j) vs).toArray := by
  intro vs
  induction vs with
  | nil => intro c off j; simp [setc]
  | cons v vs ih =>
    intro c off j
    simp only [List.zipIdx_cons, List.foldl_cons, setc]
    rw [ih]
    simp [Nat.add_assoc]
theorem fill_ok {ps : Nat → Option (Nat × Nat)} : ∀ (parts : List (Nat × Value)) (c : Array Value) (l : List Value), fillL ps c.toList parts = some l → Instr.fill ps c parts = some l.toArray := by
  intro parts
  induction parts with
  | nil => intro c l h; simp only [fillL, Option.some.injEq] at h; subst h; simp [Instr.fill]
  | cons p parts ih =>
    obtain ⟨i, v⟩ := p
    intro c l h
    simp only [fillL] at h
    simp only [Instr.fill]
    cases hp : ps i with
    | none => rw [hp] at h; cases h
    | some os =>
      obtain ⟨off, size⟩ := os
      rw [hp] at h
      simp only at h ⊢
      split at h
      · rename_i hb
        simp only [Bool.and_eq_true] at hb
        have h1 := Nat.eq_of_beq_eq_true hb.1
        have h2 := Nat.le_of_ble_eq_true hb.2
        rw [Array.length_toList] at h1 h2
        rw [if_neg (by simp; omega)]
        refine ih _ _ ?_
        have := foldl_setc v.cells.toList c off 0
        rw [← Array.foldl_toList]
        rw [Array.toList_zipIdx]
        rw [this]
        simpa using h
      · cases h
def partsT (T : Tm) : List (Nat × Operand) → Option (List (Nat × Value))
  | [] => some []
  | (i, x) :: l => match evT T x, partsT T l with
    | some v, some vs => some ((i, v) :: vs)
    | _, _ => none
theorem partsT_ok {n : Nat} {a : Act} (hr : Rel n T a) : ∀ {l : List (Nat × Operand)} {vs : List (Nat × Value)}, partsT T l = some vs → l.map (fun (i, x) => (i, a.eval x)) = vs := by
  intro l
  induction l with
  | nil => intro vs e; cases e; rfl
  | cons p l ih =>
    obtain ⟨i, x⟩ := p
    intro vs e
    simp only [partsT] at e
    split at e
    · rename_i v vs' h1 h2
      cases e
      simp only [List.map_cons, hr.eval h1]
      rw [ih h2]
    · cases e
theorem plc_run {w : World} : ∀ {l : List Field} {ps : List (Nat × Nat)}, plcL P l = some ps → (l.mapM (m := Sem) fun f => do pure (f.offset, ← _root_.Go.sizeOf f.type)).run P w = .ok ps w := by
  intro l
  induction l with
  | nil => intro ps h; cases h; simp
  | cons f l ih =>
    intro ps h
    simp only [plcL] at h
    split at h
    · rename_i i ps' h1 h2
      cases h
      have h3 := run_size' (P := P) (t := f.type) ⟨i, h1, rfl⟩ w
      simp only [List.mapM_cons, Sem.run_bind, h3, Result.andThen_ok, Sem.run_pure]
      rw [ih h2]; rfl
    · cases h
theorem SQ_build {ps : List (Nat × Nat)} {parts : Array (Nat × Operand)} {vs : List (Nat × Value)} {l zs : List Value} (ho : o.op = .build t parts) [k : TOK P t d sz bs z] [kp : PLC P t ps]
    (hp : partsT T parts.toList = some vs) (hz : z.cells.toList = zs) (hf : fillL (fun i => ps[i]?) zs vs = some l) : SQ P o T Γ (.agg l.toArray) := by
  refine ⟨(by rw [ho]; intro c h; cases h), fun n a w R hr hsat => ?_⟩
  have e1 : (parts.map fun (i, x) => (i, a.eval x)).toList = vs := by rw [Array.toList_map]; exact partsT_ok hr hp
  have h := kp.h
  unfold plcOf at h
  split at h
  · rename_i fs hu
    have e2 := plc_run (P := P) (w := w) h
    have e3 := fill_ok (ps := fun i => ps[i]?) vs z.cells l (by rw [hz]; exact hf)
    have e4 : (fs.mapM (m := Sem) fun f => do pure (f.offset, ← _root_.Go.sizeOf f.type)).run P w = .ok ps.toArray w := by
      rw [Array.mapM_eq_mapM_toList, Sem.run_map, e2]; rfl
    simp only [execOp, ho, Instr.build, Sem.run_bind, k.run_zero, run_und' hu, Result.andThen_ok, e4, e1, List.getElem?_toArray, e3, Sem.run_pure]
  · cases h

/-! slices made -/
theorem zeros_eq (zc : Array Value) : ∀ (n : Nat), ((Array.range (n * zc.size)).map fun i => zc[i % zc.size]!).toList = (List.replicate n zc.toList).flatten := by
  intro n
  rw [Array.toList_map, Array.toList_range]
  induction n with
  | zero => simp
  | succ n ih =>
    rw [show (n + 1) * zc.size = zc.size + n * zc.size from by rw [Nat.add_mul]; omega, List.range_add, List.map_append, List.replicate_succ, List.flatten_cons]
    congr 1
    · apply List.ext_getElem
      · simp
      · intro i h1 h2
        have : i < zc.size := by simpa using h1
        simp [Nat.mod_eq_of_lt this, this]
    · rw [← ih, List.map_map]
      apply List.map_congr_left
      intro i _
      simp
def zerosL (z : Value) (n : Nat) : List Value := (List.replicate n z.cells.toList).flatten
theorem zerosL_length {z : Value} {n sz : Nat} (h : z.cells.toList.length = sz) : (zerosL z n).length = n * sz := by
  simp [zerosL, ← h]
theorem run_askRoom (m : Nat) (w : World) : (askRoom m).run P w = .ok () w := by
  unfold askRoom; split <;> rfl
theorem range0 {g : Nat → Value} : (Array.range 0).map g = #[] := Array.ext' (by rw [Array.toList_map, Array.toList_range]; rfl)
set_option maxRecDepth 4000 in
theorem SOp_makeSlice {el : TypeId} {l c : Nat} {k1 k2 : IntKind} (ho : o.op = .makeSlice t x y) [k : SLC P t el sz] [ke : TOK P el d sz bs z] (hx : evT T x = some (.int k1 (l : Int))) (hy : evT T y = some (.int k2 (c : Int)))
    (hz : z.cells.toList.length = sz) (hlc : l ≤ c) (hb : bs * c ≤ 281474976710656) (hc : c < 9223372036854775808) :
    SOp P o T Γ fun e Γ' => ∃ b, e = .ok (.slice (some ⟨b, 0, none⟩) l c) ∧ Γ' = pt b (.cells (zerosL z c).toArray el (0, 0)) :: Γ := by
  refine ⟨(by rw [ho]; intro c h; cases h), fun n a w R hr hsat => ?_⟩
  obtain ⟨i, hi1, hi2, hi3⟩ := ke.run_bytes w
  have e1 : IntKind.i64.wrap (l : Int) = l := wi64_in (by omega) (by omega)
  have e2 : IntKind.i64.wrap (c : Int) = c := wi64_in (by omega) (by omega)
  have e3 : ((Array.range (c * sz)).map fun i => z.cells[i % z.cells.size]!) = (zerosL z c).toArray := by
    apply Array.ext'
    have := zeros_eq z.cells c
    rw [show z.cells.size = sz from by rw [← hz]; simp] at this ⊢
    rw [this]; rfl
  have hbb : ((i.bytes : Int) * (c : Int) : Int) ≤ 281474976710656 := by rw [hi2, ← Int.natCast_mul]; exact Int.ofNat_le.2 hb
  have hbl : ((i.bytes : Int) * (l : Int) : Int) ≤ 281474976710656 := by
    have : bs * l ≤ bs * c := Nat.mul_le_mul_left _ hlc
    rw [hi2, ← Int.natCast_mul]; exact Int.ofNat_le.2 (Nat.le_trans this hb)
  have hcond : ¬ ((((decide ((c : Int) < 0) || decide ((i.bytes : Int) * (c : Int) > 2 ^ 48)) = true) ∨ (l : Int) < 0) ∨ (l : Int) > (c : Int)) := by
    rw [show ((2 : Int) ^ 48) = 281474976710656 from rfl]
    intro h
    simp only [Bool.or_eq_true, decide_eq_true_eq] at h
    omega
  have hrun : (execOp a.eval o).run P w = .ok (.value (.slice (some ⟨w.heap.size, 0, none⟩) l c)) { w with heap := w.heap.push (.cells (zerosL z c).toArray el) } := by
    simp only [execOp, ho, Instr.makeSlice, hr.eval hx, hr.eval hy, asInt, asIntOf, Sem.run_bind, Sem.run_pure, Result.andThen_ok, run_und' k.und, hi1, e1, e2]
    simp only [Bool.or_eq_true, decide_eq_true_eq] at hcond ⊢
    rw [if_neg hcond]
    simp only [Sem.run_bind, run_askRoom, run_size' k.size, Result.andThen_ok, Int.toNat_natCast]
    by_cases h0 : c * sz = 0
    · rw [if_pos h0]
      have : (zerosL z c) = [] := List.eq_nil_of_length_eq_zero (by rw [zerosL_length hz, h0])
      simp only [Sem.run_bind, Sem.run_pure, Result.andThen_ok, h0, range0, this]
      simp [newRow, newObj, Sem.run]
    · rw [if_neg h0]
      simp only [Sem.run_bind, ke.run_zero, Sem.run_pure, Result.andThen_ok]
      rw [e3]
      simp [newRow, newObj, Sem.run]
  rw [hrun]
  exact ⟨⟨rfl, rfl, rfl, by simp⟩, _, ⟨w.heap.size, rfl, rfl⟩, sat_new hsat rfl⟩
theorem SOp_buildSlice {el : TypeId} {m : Nat} {parts : Array (Nat × Operand)} {vs : List (Nat × Value)} {l zs : List Value} (ho : o.op = .buildSlice t m parts) [k : SLC P t el sz] [ke : TOK P el d sz bs z]
    (hp : partsT T parts.toList = some vs) (hz : Nat.beq z.cells.toList.length sz = true) (hb : Nat.ble (m * sz) 16777216 = true) (hzs : zerosL z m = zs) (hf : fillL (fun i => some (i * sz, sz)) zs vs = some l) :
    SOp P o T Γ fun e Γ' => ∃ b, e = .ok (.slice (some ⟨b, 0, none⟩) m m) ∧ Γ' = pt b (.cells l.toArray el (0, 0)) :: Γ := by
  refine ⟨(by rw [ho]; intro c h; cases h), fun n a w R hr hsat => ?_⟩
  have hz' := Nat.eq_of_beq_eq_true hz
  have e1 : (parts.map fun (i, x) => (i, a.eval x)).toList = vs := by rw [Array.toList_map]; exact partsT_ok hr hp
  have e3 : ((Array.range (m * sz)).map fun i => z.cells[i % z.cells.size]!) = (zerosL z m).toArray := by
    apply Array.ext'
    have := zeros_eq z.cells m
    rw [show z.cells.size = sz from by rw [← hz']; simp] at this ⊢
    rw [this]; rfl
  have hle := Nat.le_of_ble_eq_true hb
  have e4 := fill_ok (ps := fun i => some (i * sz, sz)) vs (zerosL z m).toArray l (by rw [← hzs] at hf; simpa using hf)
  have hrun : (execOp a.eval o).run P w = .ok (.value (.slice (some ⟨w.heap.size, 0, none⟩) m m)) { w with heap := w.heap.push (.cells l.toArray el) } := by
    simp only [execOp, ho, Instr.buildSlice, Sem.run_bind, run_und' k.und, run_size' k.size, Result.andThen_ok]
    rw [if_neg (by omega)]
    by_cases h0 : m * sz = 0
    · rw [if_pos h0]
      have : (zerosL z m) = [] := List.eq_nil_of_length_eq_zero (by rw [zerosL_length hz', h0])
      rw [this] at e4
      simp only [Sem.run_bind, Sem.run_pure, Result.andThen_ok]
      simp only [h0, range0, e1]
      rw [show (#[] : Array Value) = ([] : List Value).toArray from rfl, e4]
      simp [newRow, newObj, Sem.run]
    · rw [if_neg h0]
      simp only [Sem.run_bind, ke.run_zero, Sem.run_pure, Result.andThen_ok, e3, e1, e4]
      simp [newRow, newObj, Sem.run]
  rw [hrun]
  exact ⟨⟨rfl, rfl, rfl, by simp⟩, _, ⟨w.heap.size, rfl, rfl⟩, sat_new hsat rfl⟩
theorem SOp_makeMap (ho : o.op = .makeMap t none) : SOp P o T Γ fun e Γ' => ∃ b, e = .ok (.map (some b)) ∧ Γ' = pt b (.map #[] 0) :: Γ := by
  refine ⟨(by rw [ho]; intro c h; cases h), fun n a w R hr hsat => ?_⟩
  have hrun : (execOp a.eval o).run P w = .ok (.value (.map (some w.heap.size))) { w with heap := w.heap.push (.map #[] 0) } := by
    simp [execOp, ho, Instr.makeMap, newObj, Sem.run]
  rw [hrun]
  exact ⟨⟨rfl, rfl, rfl, by simp⟩, _, ⟨w.heap.size, rfl, rfl⟩, sat_new hsat rfl⟩

/-! types asked for, panics -/
theorem SQ_assertOk {s : TypeId} {v : Value} (ho : o.op = .typeAssert x s t true) [k : TOK P t d sz bs z] (hd : notIface d = true) (hx : evT T x = some (.iface t v)) : SQ P o T Γ (.tuple #[v, .bool true]) := by
  refine ⟨(by rw [ho]; intro c h; cases h), fun n a w R hr hsat => ?_⟩
  simp only [execOp, ho, hr.eval hx, Instr.typeAssert, Sem.run_bind, k.run_und, Result.andThen_ok]
  cases d <;> first | (simp; done) | cases hd
theorem SQ_assertNo {s u : TypeId} {v : Value} (ho : o.op = .typeAssert x s t true) [k : TOK P t d sz bs z] (hd : notIface d = true) (hx : evT T x = some (.iface u v)) (hne : Nat.beq u t = false) : SQ P o T Γ (.tuple #[z, .bool false]) := by
  refine ⟨(by rw [ho]; intro c h; cases h), fun n a w R hr hsat => ?_⟩
  have hne' : ¬ u = t := fun e => by subst e; simp at hne
  simp only [execOp, ho, hr.eval hx, Instr.typeAssert, Sem.run_bind, k.run_und, Result.andThen_ok]
  cases d <;> first | (simp [hne', k.run_zero]; done) | cases hd
theorem SQ_assertNil {s : TypeId} (ho : o.op = .typeAssert x s t true) [k : TOK P t d sz bs z] (hd : notIface d = true) (hx : evT T x = some .nilIface) : SQ P o T Γ (.tuple #[z, .bool false]) := by
  refine ⟨(by rw [ho]; intro c h; cases h), fun n a w R hr hsat => ?_⟩
  simp only [execOp, ho, hr.eval hx, Instr.typeAssert, Sem.run_bind, k.run_und, Result.andThen_ok]
  cases d <;> first | (simp [k.run_zero]; done) | cases hd
theorem SQ_assert {s : TypeId} {v : Value} (ho : o.op = .typeAssert x s t false) [k : TOK P t d sz bs z] (hd : notIface d = true) (hx : evT T x = some (.iface t v)) : SQ P o T Γ v := by
  refine ⟨(by rw [ho]; intro c h; cases h), fun n a w R hr hsat => ?_⟩
  simp only [execOp, ho, hr.eval hx, Instr.typeAssert, Sem.run_bind, k.run_und, Result.andThen_ok]
  cases d <;> first | (simp; done) | cases hd
theorem SOp_panic {s : TypeId} {v : Value} (ho : o.op = .panic x) (hx : evT T x = some (.iface s v)) : SOp P o T Γ fun e Γ' => e = .panics [{ v := .iface s v, recovered := false }] ∧ Γ' = Γ := by
  refine ⟨(by rw [ho]; intro c h; cases h), fun n a w R hr hsat => ?_⟩
  have hrun : (execOp a.eval o).run P w = .halt (.panic (.iface s v)) w := by
    simp [execOp, ho, hr.eval hx, Instr.panic, goPanic]
  rw [hrun]
  exact ⟨Same.refl w, Γ, ⟨rfl, rfl⟩, hsat⟩

/-! the least, the greatest -/
theorem SQ_min {k1 k2 : IntKind} {m n : Int} {at' : Array TypeId} (ho : o.op = .call { callee := .builtin .min, args := #[x, y], argTypes := at' }) (hx : evT T x = some (.int k1 m)) (hy : evT T y = some (.int k2 n)) :
    SQ P o T Γ (.int k1 (if n < m then n else m)) := by
  refine ⟨(by rw [ho]; intro c h; cases h), fun n a w R hr hsat => ?_⟩
  simp [execOp, ho, resolve, invoke, builtin, hr.eval hx, hr.eval hy, Builtin.min_, Builtin.min2]
theorem SQ_max {k1 k2 : IntKind} {m n : Int} {at' : Array TypeId} (ho : o.op = .call { callee := .builtin .max, args := #[x, y], argTypes := at' }) (hx : evT T x = some (.int k1 m)) (hy : evT T y = some (.int k2 n)) :
    SQ P o T Γ (.int k1 (if m < n then n else m)) := by
  refine ⟨(by rw [ho]; intro c h; cases h), fun n a w R hr hsat => ?_⟩
  simp [execOp, ho, resolve, invoke, builtin, hr.eval hx, hr.eval hy, Builtin.max_, Builtin.max2]
end
end Go.Proofs.Ytdganbddgobfdaa
