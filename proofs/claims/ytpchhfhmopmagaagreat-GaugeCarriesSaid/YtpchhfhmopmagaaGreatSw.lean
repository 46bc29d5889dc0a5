/- A whole struct stored into its block, as one step. -/
import Derived.Test.YtpchhfhmopmagaaGreatWd
import Derived.Laws.CopyRow
set_option linter.unusedVariables false
set_option linter.unusedSimpArgs false
namespace Go.Proofs.YtpchhfhmopmagaaGreat.Sw
open Go.RowKit Wd

theorem setRow_grown (w : World) (g : Nat) (cs : Array Value) : w.grownBy (w.setRow g cs) (some g) :=
  ⟨rfl, rfl, rfl, by simp [World.setRow], fun k _ hk => setRow_other w g k _ (fun e => hk (by simp [e]))⟩
theorem wpList_store_whole {P : Program} {ops : Array Oper} {rest : List Oper} {o : Oper} {a : Act} {Q : Exit → Act → World → Prop} {w : World} (hgd : o.guard = none) (t : TypeId) (p v : Operand)
    (ho : o.op = .store t p v) (sz : Nat) (hso : ∀ w, (sizeOf t).run P w = .ok sz w) (g : Nat) (old cs : Array Value) (e : TypeId) (hp : a.eval p = .pointer (some ⟨g, 0, none⟩)) (hv : a.eval v = .agg cs) (hb : w.heap[g]? = some (.cells old e (0, 0))) (hsz : old.size = cs.size) (hcs : cs.size = sz)
    (h1 : ∀ u ∈ cs.toList, u.oneCell' = true)
    (h : ∀ w3, w3.heap[g]? = some (.cells cs e (0, 0)) → w.grownBy w3 (some g) → wpList P ops Q rest (a.put o.dst undef) w3) : wpList P ops Q (o :: rest) a w := by
  refine wpList_plain hgd fun K hK => ?_
  have hrun := run_storeCells_at (P := P) g 0 e cs.toList 0 old w hb (by simp [hsz]) h1
  have hrow : (old.toList.take (0 + 0) ++ cs.toList ++ old.toList.drop (0 + 0 + cs.toList.length)).toArray = cs := by
    have h0 : old.toList.drop (0 + 0 + cs.toList.length) = [] := List.drop_eq_nil_of_le (by simp [hsz])
    rw [h0]; simp
  rw [hrow] at hrun
  unfold Oper.wp
  simp [execOp, ho, hp, hv, Instr.storeAt, Instr.sureAddr, storeVar, hso, Value.cells, hcs, hrun, Result.andThen]
  exact hK _ _ (h _ (setRow_heap w g old cs e _ hb) (setRow_grown w g cs))
end Go.Proofs.YtpchhfhmopmagaaGreat.Sw
