/- A region that draws its order: a call of a function by a value. No program in sight. -/
import Derived.Test.YtkogchmnpffiaaaRel
import Derived.Test.YtkogchmnpffiaaaSep
namespace Go.Proofs.Ytkogchmnpffiaaa
set_option linter.unusedVariables false
open Go.RowKit
section
variable {P : Program} {ops : Array Oper} {G : World → World → Prop} {W0 : World} {Sp : FuncId → Array Value → Value → World → Prop}
/-- a call of a function by a value that a slot holds -/
theorem wpR_callV {Q : Act → (World → Prop) → Prop} {o : Oper} {rest : List Oper} {a : Act} {F : World → Prop} (f : FuncId) (c : Operand) (xs : Array Operand) (ts : Array TypeId) (ho : o.op = .call { callee := .value c, args := xs, argTypes := ts }) (hw : Region.wanted o (yielded ops a.tmps) = true)
    (hcv : a.eval c = .func (.func f) #[] #[])
    {fn : Func} (hf : P.funcs[f]? = some fn) (hname : (fn.name == "runtime.NumGoroutine") = false) (hb : fn.body.isSome = true) (args : Array Value) (hargs : xs.map a.eval = args)
    (hc : ∀ w, G W0 w → Calls P f args w (fun e w'' => ∃ v, e = .returned v ∧ Sp f args v w'' ∧ G w w''))
    (h : ∀ v, (∃ w, G W0 w ∧ Sp f args v w) → wpR P ops G W0 Sp Q rest (a.put o.dst v) (fun w => F w ∧ Sp f args v w)) : wpR P ops G W0 Sp Q (o :: rest) a F := by
  refine wpR_call f args hw (fun w => ?_) hc h
  unfold execOp
  simp only [ho, resolve, hcv, Deferred.ofValue, Sem.run_bind, Sem.run_pure, Result.andThen_ok, invoke, Array.append_empty]
  have he : (#[] ++ Array.map (fun x => a.eval x) xs) = args := by simpa using hargs
  have he2 : (#[] : Array Value) ++ Array.map a.eval xs ++ #[] = args := by simpa using hargs
  first
    | (rw [he]; exact run_enter hf hname hb args w)
    | (rw [he2]; exact run_enter hf hname hb args w)
    | (simp [hargs]; exact run_enter hf hname hb args w)
end
/-- a call whose value is known -/
def SpV (u : Value) (_ : FuncId) (_ : Array Value) (v : Value) (_ : World) : Prop := v = u
theorem spV_law (u : Value) : RelLaw (Step []) (SpV u) where
  refl := fun w => Step.refl [] w
  trans := fun w w' w'' h h' => h.then h' (by simp)
  stable := fun f args v w w' h hs => h
end Go.Proofs.Ytkogchmnpffiaaa
