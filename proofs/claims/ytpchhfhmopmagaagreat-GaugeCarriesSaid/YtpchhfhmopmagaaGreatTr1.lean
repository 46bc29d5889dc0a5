/- Trees in memory. -/
import Derived.Test.YtpchhfhmopmagaaGreatTpM
import Derived.Test.YtpchhfhmopmagaaGreatMp
import Derived.Test.YtpchhfhmopmagaaGreatLxM
import Derived.Test.YtpchhfhmopmagaaGreatSsM
import Derived.Test.YtpchhfhmopmagaaGreatSrM
set_option linter.unusedVariables false
set_option linter.unusedSimpArgs false
namespace Go.Proofs.YtpchhfhmopmagaaGreat.Tr
open Go.RowKit Go.Maps Go.Proofs.YtpchhfhmopmagaaGreat.Wd Go.Proofs.YtpchhfhmopmagaaGreat.Li Go.Proofs.YtpchhfhmopmagaaGreat.Mp Go.Proofs.YtpchhfhmopmagaaGreat.Tp Go.Proofs.YtpchhfhmopmagaaGreat.Cl

theorem lt_get {w : World} {g : Nat} {x : Obj} (h : w.heap[g]? = some x) : g < w.heap.size := (Array.getElem?_eq_some_iff.1 h).1
theorem cells_at {w : World} {g : Nat} {cs : Array Value} {t : TypeId} (h : w.heap[g]? = some (.cells cs t (0, 0))) (i : Nat) (v : Value) (hv : cs[i]? = some v) : w.cell? ⟨g, i, none⟩ = some v := by
  unfold World.cell?; rw [h]; simp [hv]
theorem frozen_at' {w : World} {g : Nat} {cs : Array Value} {t : TypeId} (h : w.heap[g]? = some (.cells cs t (0, 0))) (i : Nat) : w.frozen? ⟨g, i, none⟩ = false := by
  unfold World.frozen?; rw [h]; simp
theorem zslice (w : World) : (zeroValue 38).run Tryz.prog w = .ok (.slice none 0 0) w := by kernel_rfl
theorem zint (w : World) : (zeroValue 3).run Tryz.prog w = .ok (.int .i64 0) w := by kernel_rfl
theorem wf_id {i : Int} (h : 0 ≤ i ∧ i ≤ 65535) : (Lit.int .i64 i).wf = true := WalkArith.wf_i64 (by omega)

/-- the children's map, in the making: each its own row -/
structure Kid (w : World) (base : Nat) (ch : Int → List Int) (K n : Nat) (kf : Int → Option Sv) : Prop where
  map : At Sv.val Sv.enc Sv.nil Tryz.prog 3 w K n kf
  row : ∀ id, w.ownsRow base 3 1 ((kf id).getD Sv.nil).val (ch id).length (St.I (ch id))
  lt : K < base
theorem Kid.grown {w w' : World} {base : Nat} {ch : Int → List Int} {K n V : Nat} {kf : Int → Option Sv} (h : Kid w base ch K n kf) (hg : w.grownBy w' (some V)) (hV : V < base) (hne : V ≠ K) : Kid w' base ch K n kf :=
  ⟨h.map.grown hg (fun e => hne (by injection e)), fun id => (h.row id).kept hg (.inr (fun e => by have := ((h.row id).lt V e).1; omega)), h.lt⟩
theorem Kid.alloc {w : World} {base : Nat} {ch : Int → List Int} {K n : Nat} {kf : Int → Option Sv} (h : Kid w base ch K n kf) (o : Obj) : Kid (w.alloc o) base ch K n kf := ⟨h.map.alloc o, fun id => (h.row id).alloc o, h.lt⟩
/-- one cell of a row -/
theorem row_cell {w : World} {base : Nat} {e : TypeId} {A : Option Addr} {n c : Nat} {zs : List Int} {k : Nat} {id : Int} (h : w.ownsRow base e 1 (.slice A n c) zs.length (St.I zs)) (hk : zs[k]? = some id) : ∃ g, A = some ⟨g, 0, none⟩ ∧ g < w.heap.size ∧ base ≤ g ∧ n = zs.length ∧ w.cell? ⟨g, k, none⟩ = some (.int .i64 id) := by
  have hkl := (List.getElem?_eq_some_iff.1 hk).1
  obtain ⟨g, cap, hv, hbg, hglt⟩ := h.form (by omega)
  obtain ⟨rfl, rfl, rfl⟩ := Value.slice.inj hv
  have hc := h.cells (g := g) rfl k (.int .i64 id) (by simp [St.I, hk])
  rw [add_zero_at] at hc
  exact ⟨g, rfl, hglt, hbg, rfl, hc⟩
theorem row_len {w : World} {base : Nat} {e : TypeId} {A : Option Addr} {n c m : Nat} {xs : List Value} (h : w.ownsRow base e 1 (.slice A n c) m xs) : n = m := by
  rcases h.2 with ⟨e, h0⟩ | ⟨g, cap, cur, e, _⟩
  · obtain ⟨_, rfl, _⟩ := Value.slice.inj e
    have := h.1; subst h0; simp at this; omega
  · exact (Value.slice.inj e).2.1

/-- a call of a function value that is known, first arguments and all -/
theorem wpList_value2 {P : Program} {ops : Array Oper} {rest : List Oper} {o : Oper} {a : Act} {Q : Exit → Act → World → Prop} {w : World} (hgd : o.guard = none) (t : Operand) (xs : Array Operand) (ts : Array TypeId)
    (ho : o.op = .call { callee := .value t, args := xs, argTypes := ts }) (fid : FuncId) (first caps : Array Value) (hv : a.eval t = .func (.func fid) first caps) (args : Array Value) (hargs : first ++ xs.map a.eval ++ caps = args)
    (eg : ∀ args w, (callFunc fid args).run P w = .ok (.enter fid args) w)
    (h : Calls P fid args w fun e w' => ∃ v, e = .returned v ∧ wpList P ops Q rest (a.put o.dst v) w') : wpList P ops Q (o :: rest) a w := by
  refine wpList_plain hgd fun K hK => ?_
  have hrun : (execOp a.eval o).run P w = .ok (.enter fid args) w := by
    subst hargs
    simp [execOp, ho, resolve, hv, invoke, eg, Deferred.ofValue]
  unfold Oper.wp
  rw [hrun]
  refine Calls.mono h ?_
  rintro e w' ⟨v, rfl, hv⟩
  exact hK _ _ hv
end Go.Proofs.YtpchhfhmopmagaaGreat.Tr
