/- What is asked of the program's tables: of a type, of a field, of a function. -/
import Derived.CallsIn
import Derived.Laws.Sem
namespace Go.Proofs.Ytdganbddgobfdaa

class TOK (P : Program) (t : TypeId) (d : outParam TypeDesc) (sz : outParam Nat) (bs : outParam Nat) (z : outParam Value) : Prop where
  und : P.underlying t = some d
  info : (P.info? t).map (fun i => (i.size, i.bytes, i.zero)) = some (sz, bs, some z)
def fldOff (P : Program) (t : TypeId) (i : Nat) : Option Nat :=
  match P.underlying t with
  | some (.struct fs) => match fs[i]? with
    | some fl => match P.info? fl.type with
      | some inf => match inf.size with
        | 0 => none
        | _ + 1 => some fl.offset
      | none => none
    | none => none
  | _ => none
class FLD (P : Program) (t : TypeId) (i : Nat) (off : outParam Nat) : Prop where
  h : fldOff P t i = some off
def plcL (P : Program) : List Field → Option (List (Nat × Nat))
  | [] => some []
  | f :: l => match P.info? f.type, plcL P l with
    | some i, some ps => some ((f.offset, i.size) :: ps)
    | _, _ => none
def plcOf (P : Program) (t : TypeId) : Option (List (Nat × Nat)) :=
  match P.underlying t with
  | some (.struct fs) => plcL P fs.toList
  | _ => none
/-- Where a struct's fields lie, and how long they are. -/
class PLC (P : Program) (t : TypeId) (ps : outParam (List (Nat × Nat))) : Prop where
  h : plcOf P t = some ps
/-- A function that has a body and is entered by a call. -/
def Enters (P : Program) (f : FuncId) : Prop := ∀ args w, (callFunc f args).run P w = .ok (.enter f args) w
class FN (P : Program) (f : FuncId) (fn : outParam Func) (n : outParam Nat) (rs : outParam (Array ResultVar)) : Prop where
  hf : P.funcs[f]? = some fn
  he : Enters P f
  hn : fn.ntmps = n
  hr : fn.results = rs
theorem enters_of {P : Program} {f : FuncId} {fn : Func} (hf : P.funcs[f]? = some fn) (hb : fn.body.isNone = false) (hn : (fn.name == "runtime.NumGoroutine") = false) : Enters P f := by
  intro args w
  simp only [callFunc, program, Sem.run_bind, Sem.run, hf, Result.andThen_ok]
  rw [if_neg (by rw [hn]; simp), if_neg (by rw [hb]; simp)]
  rfl

end Go.Proofs.Ytdganbddgobfdaa
