/- A region whose order is open, walked once in the order of the text, where some operations give one of several values (a NaN, say): what each may give is named ahead ('R'), the others give one value in every world of a class 'C'. -/
import Derived.Deep.QuietTactic
import Derived.WalkKit
import Derived.BigQuiet
set_option linter.unusedVariables false
set_option linter.unusedSimpArgs false
namespace Go.Proofs.YtpchhfhmopmagaaGreat.Rel
open Go.RowKit
section
variable {P : Program} {ops : Array Oper} {md : Region.Mode} {C : World → Prop} {R : Nat → Option (Value → Prop)}

/-- one of several values, and a world of the class -/
def relOk (P : Program) (C : World → Prop) (V : Value → Prop) : Result Next → Prop
  | .ok (.value u) w' => V u ∧ C w'
  | .ok (.enter f args) w' => Calls P f args w' fun e w'' => ∃ u, e = .returned u ∧ V u ∧ C w''
  | _ => False
/-- this value, the world as it was -/
def oneOk (w : World) (v : Value) : Result Next → Prop
  | .ok (.value u) w' => w' = w ∧ u = v
  | .ok .skip w' => w' = w ∧ undef = v
  | _ => False

/-- operation 'n', carried out in state 'a' -/
def opR (P : Program) (C : World → Prop) (R : Nat → Option (Value → Prop)) (ops : Array Oper) (n : Nat) (o : Oper) (K : Act → Prop) (a : Act) : Prop :=
  if Region.wanted o (yielded ops a.tmps) then
    match R n with
    | some V => (∀ w, C w → relOk P C V ((execOp a.eval o).run P w)) ∧ ∀ v, V v → K (a.put o.dst v)
    | none => ∃ v, (∀ w, C w → oneOk w v ((execOp a.eval o).run P w)) ∧ K (a.put o.dst v)
  else K (a.put o.dst undef)

theorem oneOk_eq {w : World} {u v : Value} {r : Result Next} (h : oneOk w u r) (k : oneOk w v r) : u = v := by
  unfold oneOk at h k
  split at h
  · exact h.2.symm.trans k.2
  · exact h.2.symm.trans k.2
  · exact h.elim

/-- the operations in the order of the text -/
def wpRel (P : Program) (C : World → Prop) (R : Nat → Option (Value → Prop)) (ops : Array Oper) (Q : Act → Prop) : Nat → List Oper → Act → Prop
  | _, [], a => Q a
  | n, o :: rest, a => opR P C R ops n o (wpRel P C R ops Q (n + 1) rest) a

end
/-- an operation that enters no Go function, by its look -/
def plainOp (o : Oper) : Bool :=
  match o.op with
  | .nilCheck _ | .go _ | .defer _ | .send _ _ | .recv _ _ _ | .select _ _ => false
  | .call c => match c.callee with | .builtin .len | .builtin .cap | .builtin .min | .builtin .max => true | _ => false
  | _ => true
theorem no_v {P : Program} {w w' : World} {f : FuncId} {args : Array Value} (s : Sem Value) : ((do pure (Next.value (← s))) : Sem Next).run P w ≠ .ok (.enter f args) w' := by
  rw [Sem.run_bind]
  cases s.run P w <;> simp [Result.andThen]
theorem no_u {P : Program} {w w' : World} {f : FuncId} {args : Array Value} (s : Sem Unit) : ((do s; pure Next.skip) : Sem Next).run P w ≠ .ok (.enter f args) w' := by
  rw [Sem.run_bind]
  cases s.run P w <;> simp [Result.andThen]
theorem no_enter {P : Program} {o : Oper} (h : plainOp o = true) (ρ : Operand → Value) (w w' : World) (f : FuncId) (args : Array Value) : (execOp ρ o).run P w ≠ .ok (.enter f args) w' := by
  unfold execOp
  unfold plainOp at h
  split <;> rename_i ho <;> rw [ho] at h <;> first | exact no_v _ | exact no_u _ | (cases h; done) | skip
  · simp
  · simp
  · dsimp only
    rw [Sem.run_bind]
    generalize (asBool _).run P w = r
    cases r <;> simp [Result.andThen]
  · rename_i c
    dsimp only at h
    split at h <;> rename_i hc <;> first | (cases h; done) | skip
    all_goals
      simp only [resolve, hc]
      rw [Sem.run_bind, Sem.run_pure]
      simp only [Result.andThen]
      exact no_v _
section
variable {P : Program} {ops : Array Oper} {C : World → Prop} {R : Nat → Option (Value → Prop)}
end

open Classical in
/-- 'u' if it is as 'W' below block 'B', else 'W': so that 'a world as W was below B' is 'mix B W u' for some u, and a cell below B reads as in W by a rule. -/
noncomputable def mix (B : Nat) (W u : World) : World := if Below B W u then u else W
theorem mix_below (B : Nat) (W u : World) : Below B W (mix B W u) := by
  unfold mix
  split
  · assumption
  · exact Below.refl _ _
@[go_sem] theorem cell_mix {B : Nat} {W u : World} {p : Addr} (h : p.block < B) : (mix B W u).cell? p = W.cell? p := (mix_below B W u).cell h
@[go_sem] theorem frozen_mix {B : Nat} {W u : World} {p : Addr} (h : p.block < B) : (mix B W u).frozen? p = W.frozen? p := (mix_below B W u).frozen h
end Go.Proofs.YtpchhfhmopmagaaGreat.Rel
