/- What a slice shows; slices cut; cells copied, cleared; what is appended in place. -/
import Derived.Test.YtdganbddgobfdaaSl10
namespace Go.Proofs.Ytdganbddgobfdaa

def addA (a : Option Addr) (n : Nat) : Option Addr := a.map fun x => x.add n
def subA (a : Option Addr) (l m sz : Nat) : Option Addr := if m = l then a else addA a (l * sz)
/-- In the world w the cells from a on begin with L. -/
def VW (w : World) (a : Option Addr) (L : List Value) : Prop :=
  L = [] ∨ ∃ b off c et f, a = some ⟨b, off, none⟩ ∧ w.heap[b]? = some (.cells c et f) ∧ (c.toList.drop off).take L.length = L
class View (Γ : List HP) (a : Option Addr) (L : outParam (List Value)) : Prop where
  h : ∀ w R, sat w (Γ ++ R) → VW w a L
instance (priority := low) View.later {Γ : List HP} {A : HP} {a : Option Addr} {L : List Value} [k : View Γ a L] : View (A :: Γ) a L := ⟨fun w R s => k.h w R (sat_drop s)⟩
instance View.pt {b off : Nat} {c : Array Value} {et : TypeId} {f : Nat × Nat} {Γ : List HP} : View (pt b (.cells c et f) :: Γ) (some ⟨b, off, none⟩) (c.toList.drop off) :=
  ⟨fun _ _ s => .inr ⟨b, off, c, et, f, rfl, sat_pt s, by simp [List.take_of_length_le]⟩⟩
instance View.ro {b off : Nat} {c : Array Value} {et : TypeId} {f : Nat × Nat} {Γ : List HP} : View (ro b (.cells c et f) :: Γ) (some ⟨b, off, none⟩) (c.toList.drop off) :=
  ⟨fun _ _ s => .inr ⟨b, off, c, et, f, rfl, sat_ro s, by simp [List.take_of_length_le]⟩⟩
instance View.own {el : TypeId} {sz m cap : Nat} {a : Option Addr} {L : List Value} {Γ : List HP} : View (ownS el sz (.slice a m cap) m L :: Γ) a L := ⟨fun w R s => by
  rcases sat_ownS s with ⟨_, _, e, _⟩ | ⟨b, cap', sp, e, _, _, s'⟩
  · exact .inl e
  · cases e
    exact .inr ⟨b, 0, _, el, (0, 0), rfl, sat_pt s', by simp⟩⟩
instance View.nil {Γ : List HP} : View Γ none [] := ⟨fun _ _ _ => .inl rfl⟩
instance {Γ Δ : List HP} {A : HP} {a : Option Addr} {L : List Value} [k : View (A :: (Γ ++ Δ)) a L] : View ((A :: Γ) ++ Δ) a L := ⟨fun w R s => k.h w R s⟩
instance {Δ : List HP} {a : Option Addr} {L : List Value} [k : View Δ a L] : View (([] : List HP) ++ Δ) a L := ⟨fun w R s => k.h w R s⟩
theorem VW.take {w : World} {a : Option Addr} {L : List Value} (h : VW w a L) (k : Nat) : VW w a (L.take k) := by
  rcases h with rfl | ⟨b, off, c, et, f, e1, e2, e3⟩
  · left; simp
  · refine .inr ⟨b, off, c, et, f, e1, e2, ?_⟩
    conv => rhs; rw [← e3]
    rw [List.length_take, List.take_take]
theorem VW.drop {w : World} {a : Option Addr} {L : List Value} (h : VW w a L) (k : Nat) : VW w (addA a k) (L.drop k) := by
  rcases h with rfl | ⟨b, off, c, et, f, e1, e2, e3⟩
  · left; simp
  · subst e1
    refine .inr ⟨b, off + k, c, et, f, by simp [addA, addr_add], e2, ?_⟩
    conv => rhs; rw [← e3]
    rw [List.drop_take, List.drop_drop, List.length_drop]
theorem View.take {Γ : List HP} {a : Option Addr} {L : List Value} (h : View Γ a L) (k : Nat) : View Γ a (L.take k) := ⟨fun w R s => (h.h w R s).take k⟩
theorem VW.sub {w : World} {a : Option Addr} {L : List Value} (h : VW w a L) (l m sz : Nat) : VW w (subA a l m sz) ((L.drop (l * sz)).take ((m - l) * sz)) := by
  unfold subA
  split
  · rename_i e; left; rw [e]; simp
  · exact (h.drop _).take _
instance View.sub {Γ : List HP} {a : Option Addr} {L : List Value} {l m sz : Nat} [k : View Γ a L] : View Γ (subA a l m sz) ((L.drop (l * sz)).take ((m - l) * sz)) := ⟨fun w R s => (k.h w R s).sub l m sz⟩
instance View.add {Γ : List HP} {a : Option Addr} {L : List Value} {n : Nat} [k : View Γ a L] : View Γ (addA a n) (L.drop n) := ⟨fun w R s => (k.h w R s).drop n⟩
theorem subA_zero {a : Option Addr} {m sz : Nat} : subA a 0 m sz = a := by
  unfold subA addA
  split
  · rfl
  · cases a with
    | none => rfl
    | some x => rw [Nat.zero_mul]; cases x; rfl
theorem subA_lt {b off l m sz : Nat} (h : l < m) : subA (some ⟨b, off, none⟩) l m sz = some ⟨b, off + l * sz, none⟩ := by
  unfold subA
  rw [if_neg (by omega)]
  simp [addA, addr_add]
theorem VW.get {w : World} {a : Option Addr} {L : List Value} (h : VW w a L) {j : Nat} {v : Value} (hj : L[j]? = some v) :
    ∃ b off c et f, a = some ⟨b, off, none⟩ ∧ w.heap[b]? = some (.cells c et f) ∧ c[off + j]? = some v := by
  rcases h with rfl | ⟨b, off, c, et, f, e1, e2, e3⟩
  · simp at hj
  · refine ⟨b, off, c, et, f, e1, e2, ?_⟩
    have hlt : j < L.length := by rcases Nat.lt_or_ge j L.length with h | h; exact h; rw [List.getElem?_eq_none h] at hj; cases hj
    rw [← e3, List.getElem?_take_of_lt hlt, List.getElem?_drop] at hj
    rw [← hj]; simp

section
variable {P : Program} {o : Oper} {T : Tm} {Γ : List HP} {t t' : TypeId} {d d2 : TypeDesc} {sz bs sz2 bs2 : Nat} {z z2 : Value} {x y : Operand}

theorem SQ_indexV {a : Option Addr} {m cap : Nat} {el : TypeId} {i : Int} {kk : IntKind} {L : List Value} (ho : o.op = .indexAddr t x y) [k : SLC P t el sz] [hv : View Γ a L]
    (hx : evT T x = some (.slice a m cap)) (hy : evT T y = some (.int kk i)) (hL : m * sz ≤ L.length) (hsz : Nat.blt 0 sz = true) (h0 : 0 ≤ i) (h1 : i < m) :
    SQ P o T Γ (.pointer (addA a (i.toNat * sz))) := by
  refine ⟨(by rw [ho]; intro c h; cases h), fun n ac w R hr hsat => ?_⟩
  have hsz' : 0 < sz := Nat.lt_of_succ_le (Nat.le_of_ble_eq_true hsz)
  rcases hv.h w R hsat with rfl | ⟨b, off, c, et, f, rfl, _, _⟩
  · have : 0 < m * sz := Nat.mul_pos (by omega) hsz'
    simp at hL; omega
  · simp [execOp, ho, hr.eval hx, hr.eval hy, Instr.indexAt, asIntOf, run_und' k.und, h0, h1, run_size' k.size, addr_add, addA]
theorem SQ_fieldV {a : Option Addr} {i fo : Nat} {v : Value} {L : List Value} (ho : o.op = .fieldAddr t x i) [k : FLD P t i fo] [hv : View Γ a L] (hL : L[0]? = some v)
    (hx : evT T x = some (.pointer a)) : SQ P o T Γ (.pointer (addA a fo)) := by
  refine ⟨(by rw [ho]; intro c h; cases h), fun n ac w R hr hsat => ?_⟩
  obtain ⟨b, off, c, et, f, rfl, _, _⟩ := (hv.h w R hsat).get hL
  have := (SQ_fieldAddr (P := P) (o := o) (T := T) (Γ := Γ) ho hx).2 n ac w R hr hsat
  rw [this]; simp [addA, addr_add]
theorem SQ_loadW {b off : Nat} {v : Value} (ho : o.op = .load t x) [k : TOK P t d sz bs z] (hx : evT T x = some (.pointer (some ⟨b, off, none⟩))) (hna : isAggD d = false) (hsz : sz = 1)
    (hw : ∀ w R, sat w (Γ ++ R) → ∃ c et f, w.heap[b]? = some (.cells c et f) ∧ c[off]? = some v) : SQ P o T Γ v := by
  refine ⟨(by rw [ho]; intro c h; cases h), fun n ac w R hr hsat => ?_⟩
  obtain ⟨c, et, f, h1, h2⟩ := hw w R hsat
  simp [execOp, ho, hr.eval hx, Instr.loadAt, Instr.sureAddr, loadVar, k.run_isAgg, hna, k.run_size, hsz, load, Sem.run, cell_of h1, h2]
theorem SQ_loadV {a : Option Addr} {v : Value} {L : List Value} (ho : o.op = .load t x) [k : TOK P t d sz bs z] [hv : View Γ a L] (hx : evT T x = some (.pointer a)) (hL : L[0]? = some v) (hna : isAggD d = false) :
    SQ P o T Γ v := by
  refine ⟨(by rw [ho]; intro c h; cases h), fun n ac w R hr hsat => ?_⟩
  obtain ⟨b, off, c, et, f, rfl, h1, h2⟩ := (hv.h w R hsat).get hL
  rw [Nat.add_zero] at h2
  simp [execOp, ho, hr.eval hx, Instr.loadAt, Instr.sureAddr, loadVar, k.run_isAgg, hna, load, Sem.run, cell_of h1, h2]
theorem SQ_loadVA {a : Option Addr} {L : List Value} (ho : o.op = .load t x) [k : TOK P t d sz bs z] [hv : View Γ a L] (hx : evT T x = some (.pointer a)) (hL : sz ≤ L.length) (hsz : Nat.blt 0 sz = true) (hna : isAggD d = true) :
    SQ P o T Γ (.agg (L.take sz).toArray) := by
  refine ⟨(by rw [ho]; intro c h; cases h), fun n ac w R hr hsat => ?_⟩
  have hsz' : 0 < sz := Nat.lt_of_succ_le (Nat.le_of_ble_eq_true hsz)
  rcases hv.h w R hsat with rfl | ⟨b, off, c, et, f, rfl, h1, h2⟩
  · simp at hL; omega
  · have hlen : L.length ≤ c.size - off := by rw [← h2]; simp; omega
    have hc := run_loadCells (P := P) (n := sz) h1 (show off + sz ≤ c.size by omega)
    have e : (c.toList.drop off).take sz = L.take sz := by rw [← h2, List.take_take, Nat.min_eq_left hL]
    simp [execOp, ho, hr.eval hx, Instr.loadAt, Instr.sureAddr, loadVar, k.run_isAgg, hna, k.run_size, hc, e]

/-! slices cut -/
def bndT (T : Tm) (d : Nat) : Option Operand → Option Int
  | none => some (d : Int)
  | some x => match evT T x with
    | some (.int _ i) => some i
    | _ => none
theorem bound_ok {a : Act} {n : Nat} {w : World} (hr : Rel n T a) {d m y : Nat} {q : Operand} {code : BoundsCode} (h : bndT T d (some q) = some (m : Int)) (hm : m ≤ y) :
    (Instr.sliceBound (a.eval q) y code).run P w = .ok m w := by
  simp only [bndT] at h
  split at h
  · rename_i k i e
    cases h
    simp [hr.eval e, Instr.sliceBound, asIntOf, hm]
  · cases h
theorem bounds_ok {a : Act} {n : Nat} {w : World} (hr : Rel n T a) {len cap l h m : Nat} {lo hi mx : Option Operand} {s : Bool} (e1 : bndT T cap mx = some (m : Int)) (e2 : bndT T len hi = some (h : Int)) (e3 : bndT T 0 lo = some (l : Int))
    (i1 : l ≤ h) (i2 : h ≤ m) (i3 : m ≤ cap) (hmx : mx = none ∨ hi ≠ none) : (Instr.sliceBounds s len cap (lo.map a.eval) (hi.map a.eval) (mx.map a.eval)).run P w = .ok (l, h, m) w := by
  have hd : ∀ {d m : Nat}, bndT T d none = some (m : Int) → d = m := fun h => Int.ofNat.inj (Option.some.inj h)
  unfold Instr.sliceBounds
  cases mx with
  | none =>
    cases hd e1
    cases hi with
    | none =>
      cases hd e2
      cases lo with
      | none => cases hd e3; simp
      | some q => simp [bound_ok hr e3 i1]
    | some r =>
      cases lo with
      | none => cases hd e3; simp [bound_ok hr e2 i2]
      | some q => simp [bound_ok hr e2 i2, bound_ok hr e3 i1]
  | some u =>
    cases hi with
    | none => rcases hmx with h | h; cases h; exact absurd rfl h
    | some r =>
      cases lo with
      | none => cases hd e3; simp [bound_ok hr e1 i3, bound_ok hr e2 i2]
      | some q => simp [bound_ok hr e1 i3, bound_ok hr e2 i2, bound_ok hr e3 i1]
def mxOK : Option Operand → Option Operand → Bool
  | some _, none => false
  | _, _ => true
theorem mxOK_ok {mx hi : Option Operand} (h : mxOK mx hi = true) : mx = none ∨ hi ≠ none := by
  cases mx <;> cases hi <;> simp_all [mxOK]
theorem SQ_slice {a : Option Addr} {len cap l h m : Nat} {el : TypeId} {lo hi mx : Option Operand} (ho : o.op = .slice t x lo hi mx) [k : SLC P t el sz] (hx : evT T x = some (.slice a len cap))
    (e1 : bndT T cap mx = some (m : Int)) (e2 : bndT T len hi = some (h : Int)) (e3 : bndT T 0 lo = some (l : Int)) (hmx : mxOK mx hi = true) (i1 : l ≤ h) (i2 : h ≤ m) (i3 : m ≤ cap) :
    SQ P o T Γ (.slice (subA a l m sz) (h - l) (m - l)) := by
  refine ⟨(by rw [ho]; intro c h; cases h), fun n ac w R hr hsat => ?_⟩
  have hb := bounds_ok (P := P) (w := w) (s := true) hr e1 e2 e3 i1 i2 i3 (mxOK_ok hmx)
  simp only [execOp, ho, hr.eval hx, Instr.sliceAt, Instr.slice, Sem.run_bind, run_und' k.und, Result.andThen_ok, hb, run_size' k.size, Sem.run_pure, subA, addA]
theorem SQ_sliceA {b off len l h m : Nat} {el : TypeId} {lo hi mx : Option Operand} (ho : o.op = .slice t x lo hi mx) [k : ARR P t len el sz] (hx : evT T x = some (.pointer (some ⟨b, off, none⟩)))
    (e1 : bndT T len mx = some (m : Int)) (e2 : bndT T len hi = some (h : Int)) (e3 : bndT T 0 lo = some (l : Int)) (hmx : mxOK mx hi = true) (i1 : l ≤ h) (i2 : h ≤ m) (i3 : m ≤ len) :
    SQ P o T Γ (.slice (subA (some ⟨b, off, none⟩) l m sz) (h - l) (m - l)) := by
  refine ⟨(by rw [ho]; intro c h; cases h), fun n ac w R hr hsat => ?_⟩
  have hb := bounds_ok (P := P) (w := w) (s := false) hr e1 e2 e3 i1 i2 i3 (mxOK_ok hmx)
  simp only [execOp, ho, hr.eval hx, Instr.sliceAt, Instr.sureAddr, Sem.run_bind, run_und' k.und, Result.andThen_ok, hb, run_size' k.size, Sem.run_pure, subA, addA, Option.map_some]
  split <;> rfl
theorem SQ_sliceStr {s : ByteArray} {l h : Nat} {lo hi : Option Operand} (ho : o.op = .slice t x lo hi none) [k : TOK P t d sz bs z] (hd : d = .string) (hx : evT T x = some (.string s))
    (e2 : bndT T s.size hi = some (h : Int)) (e3 : bndT T 0 lo = some (l : Int)) (i1 : l ≤ h) (i2 : h ≤ s.size) : SQ P o T Γ (.string (s.extract l h)) := by
  refine ⟨(by rw [ho]; intro c h; cases h), fun n ac w R hr hsat => ?_⟩
  subst hd
  have hb := bounds_ok (P := P) (w := w) (s := false) (mx := none) hr rfl e2 e3 i1 i2 (Nat.le_refl s.size) (.inl rfl)
  simp only [Option.map_none] at hb
  simp only [execOp, ho, hr.eval hx, Instr.sliceAt, Instr.slice, Sem.run_bind, k.run_und, Result.andThen_ok, hb, Sem.run_pure, Option.map_none, Option.isSome_none, Bool.false_eq_true, if_false]
def capV : TypeDesc → Value → Option Nat
  | .slice _, .slice _ _ n => some n
  | .array n _, _ => some n
  | _, _ => none
theorem SQ_cap {v : Value} {m : Nat} (ho : o.op = .call { callee := .builtin .cap, args := #[x], argTypes := #[t] }) [k : TOK P t d sz bs z]
    (hx : evT T x = some v) (hl : capV d v = some m) : SQ P o T Γ (.int .i64 m) := by
  refine ⟨(by rw [ho]; intro c h; cases h), fun n a w R hr hsat => ?_⟩
  simp only [execOp, ho, resolve, invoke, Sem.run_bind, Sem.run_pure, Result.andThen_ok, builtin, List.map_toArray, List.map_cons, List.map_nil, hr.eval hx, Builtin.cap_]
  unfold capV at hl
  split at hl <;> cases hl <;> simp [k.run_und, goInt]

/-! what is copied -/
theorem first_view {a : Option Addr} {m cap n : Nat} {L : List Value} (hv : View Γ a L) (hL : n * sz ≤ L.length) (w : World) (R : List HP) (s : sat w (Γ ++ R)) :
    (Builtin.firstCells sz n (.slice a m cap)).run P w = .ok (L.take (n * sz)).toArray w := by
  cases a with
  | none =>
    rcases hv.h w R s with rfl | ⟨b, off, c, et, f, e, _, _⟩
    · rw [List.take_nil]; rfl
    · cases e
  | some ad =>
    rcases hv.h w R s with rfl | ⟨b, off, c, et, f, e, h1, h2⟩
    · have h0 : n * sz = 0 := Nat.le_zero.1 hL
      simp only [Builtin.firstCells, h0]
      rfl
    · cases e
      have hlen : L.length ≤ c.size - off := by rw [← h2]; simp; omega
      rcases Nat.eq_zero_or_pos (n * sz) with h0 | hp
      · simp only [Builtin.firstCells, h0]; rfl
      · have hc := run_loadCells (P := P) (n := n * sz) h1 (show off + n * sz ≤ c.size by omega)
        have e : (c.toList.drop off).take (n * sz) = L.take (n * sz) := by rw [← h2, List.take_take, Nat.min_eq_left hL]
        rw [← e]; exact hc
theorem first_str {s : ByteArray} {n : Nat} (w : World) : (Builtin.firstCells sz n (.string s)).run P w = .ok ((s.extract 0 n).data.map fun b => .int .u8 b.toNat) w := rfl
theorem SOp_copy {el : TypeId} {b off dl dc m q : Nat} {u : Value} {X : List Value} {c : Array Value} {et : TypeId} {f : Nat × Nat} {mk : HP → List HP} (ho : o.op = .call { callee := .builtin .copy, args := #[x, y], argTypes := #[t, t'] })
    [k : SLC P t el sz] (hx : evT T x = some (.slice (some ⟨b, off, none⟩) dl dc)) (hy : evT T y = some u) (hu : lenU u = some m) (hq : Nat.min m dl = q) [ku : Upd Γ b (.cells c et f) mk]
    (hX : ∀ w R, sat w (Γ ++ R) → (Builtin.firstCells sz q u).run P w = .ok X.toArray w) (hXp : ∀ e ∈ X, plainV e = true) (hoff : off + X.length ≤ c.toList.length) (hfr : f.2 ≤ f.1 ∨ off + X.length ≤ f.1) :
    SOp P o T Γ (det (.int .i64 q) (mk (Go.Proofs.Ytdganbddgobfdaa.pt b (.cells (setc c.toList off X).toArray et f)))) := by
  refine ⟨(by rw [ho]; intro c h; cases h), fun n a w R hr hsat => ?_⟩
  have hb := ku.get w R hsat
  have hlen : (Builtin.lenOf u).run P w = .ok m w := by
    unfold lenU at hu
    split at hu <;> cases hu <;> rfl
  obtain ⟨w', hrun, hs, h1, h2⟩ := run_storeCells (P := P) X w off 0 c hb (by simpa using hoff) (fun j h1 h2 => by omega) hXp
  have e : (execOp a.eval o).run P w = .ok (.value (.int .i64 q)) w' := by
    simp [execOp, ho, resolve, invoke, builtin, hr.eval hx, hr.eval hy, Builtin.copy_, run_und' k.und, hlen, hq, run_size' k.size, hX w R hsat, hrun, goInt]
  rw [e]
  exact ⟨hs, _, ⟨rfl, rfl⟩, ku.set w R hsat w' _ (by rw [h1]; rfl) h2⟩
theorem SOp_clear {el : TypeId} {b off m cap : Nat} {c : Array Value} {et : TypeId} {f : Nat × Nat} {mk : HP → List HP} (ho : o.op = .call { callee := .builtin .clear, args := #[x], argTypes := #[t] })
    [k : SLC P t el sz] [ke : TOK P el d sz bs z] (hx : evT T x = some (.slice (some ⟨b, off, none⟩) m cap)) [ku : Upd Γ b (.cells c et f) mk] (hz : z.cells.toList.length = sz) (hm : 0 < m)
    (hXp : ∀ e ∈ zerosL z m, plainV e = true) (hoff : off + m * sz ≤ c.toList.length) (hfr : f.2 ≤ f.1 ∨ off + m * sz ≤ f.1) :
    SOp P o T Γ (det (.tuple #[]) (mk (Go.Proofs.Ytdganbddgobfdaa.pt b (.cells (setc c.toList off (zerosL z m)).toArray et f)))) := by
  refine ⟨(by rw [ho]; intro c h; cases h), fun n a w R hr hsat => ?_⟩
  have hb := ku.get w R hsat
  have hl : (zerosL z m).length = m * sz := zerosL_length hz
  obtain ⟨w', hrun, hs, h1, h2⟩ := run_storeCells (P := P) (zerosL z m) w off 0 c hb (by rw [hl]; simpa using hoff) (fun j h1 h2 => by omega) hXp
  have ez : (Builtin.zeroCells z.cells m).toList = zerosL z m := zeros_eq z.cells m
  obtain ⟨m', rfl⟩ : ∃ m', m = m' + 1 := ⟨m - 1, by omega⟩
  have e : (execOp a.eval o).run P w = .ok (.value (.tuple #[])) w' := by
    simp [execOp, ho, resolve, invoke, builtin, hr.eval hx, Builtin.clear_, run_und' k.und, ke.run_zero, ez, hrun]
  rw [e]
  exact ⟨hs, _, ⟨rfl, rfl⟩, ku.set w R hsat w' _ (by rw [h1]; rfl) h2⟩
/-- What is appended where there is room. -/
theorem SOp_appendIn {el : TypeId} {b off n cap m : Nat} {u : Value} {X : List Value} {c : Array Value} {et : TypeId} {f : Nat × Nat} {mk : HP → List HP} (ho : o.op = .call { callee := .builtin .append, args := #[x, y], argTypes := #[t, t'] })
    [k : SLC P t el sz] [k2 : TOK P t' d2 sz2 bs2 z2] (hd2 : isSS d2 = true) (hx : evT T x = some (.slice (some ⟨b, off, none⟩) n cap)) (hy : evT T y = some u) (hu : lenU u = some m) (hfit : n + m ≤ cap) [ku : Upd Γ b (.cells c et f) mk]
    (hX : ∀ w R, sat w (Γ ++ R) → (Builtin.firstCells sz m u).run P w = .ok X.toArray w) (hXp : ∀ e ∈ X, plainV e = true) (hoff : off + n * sz + X.length ≤ c.toList.length) (hfr : f.2 ≤ f.1 ∨ off + n * sz + X.length ≤ f.1) :
    SOp P o T Γ (det (.slice (some ⟨b, off, none⟩) (n + m) cap) (mk (Go.Proofs.Ytdganbddgobfdaa.pt b (.cells (setc c.toList (off + n * sz) X).toArray et f)))) := by
  refine ⟨(by rw [ho]; intro c h; cases h), fun nn a w R hr hsat => ?_⟩
  have hb := ku.get w R hsat
  have hlen : (Builtin.lenOf u).run P w = .ok m w := by
    unfold lenU at hu
    split at hu <;> cases hu <;> rfl
  obtain ⟨w', hrun, hs, h1, h2⟩ := run_storeCells (P := P) X w (off + n * sz) 0 c hb (by simpa using hoff) (fun j h1 h2 => by omega) hXp
  have e : (execOp a.eval o).run P w = .ok (.value (.slice (some ⟨b, off, none⟩) (n + m) cap)) w' := by
    rcases isSS_or hd2 with ⟨e2, rfl⟩ | rfl <;> simp [execOp, ho, resolve, invoke, builtin, hr.eval hx, hr.eval hy, Builtin.append_, run_und' k.und, k2.run_und, run_size' k.size, hlen, hX w R hsat, hfit, addr_add, hrun]
  rw [e]
  exact ⟨hs, _, ⟨rfl, rfl⟩, ku.set w R hsat w' _ (by rw [h1]; rfl) h2⟩
end
end Go.Proofs.Ytdganbddgobfdaa
