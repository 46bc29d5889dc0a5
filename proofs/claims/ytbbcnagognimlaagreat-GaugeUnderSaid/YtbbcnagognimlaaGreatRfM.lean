/- The reference's Children, IDs; a tree's Leaves. The reference's IDs, Leaves, Root, Rise, Level. The reference's Rise, Level. The reference's Check. -/
import Derived.Test.YtbbcnagognimlaaGreatTr8
import Derived.Test.YtbbcnagognimlaaGreatSsM
set_option linter.unusedVariables false
set_option linter.unusedSimpArgs false
/- The reference's Children, IDs; a tree's Leaves. -/
namespace Go.Proofs.YtbbcnagognimlaaGreat.Tr
open Go.RowKit Go.Maps Go.Proofs.YtbbcnagognimlaaGreat.Wd Go.Proofs.YtbbcnagognimlaaGreat.Li Go.Proofs.YtbbcnagognimlaaGreat.Mp Go.Proofs.YtbbcnagognimlaaGreat.Tp Go.Proofs.YtbbcnagognimlaaGreat.Cl Go.Proofs.YtbbcnagognimlaaGreat.So Go.Proofs.YtbbcnagognimlaaGreat.Sw
attribute [local go_sem] run_store_float

theorem push_below {B base : Nat} {w0 wr w7 : World} {o : Obj} {v : Value} {n : Nat} {xs : List Value} {e : TypeId} (h : Below B w0 wr) (hB : B ≤ base) (hw : B ≤ wr.heap.size) (hown : wr.ownsRow base e 1 v n xs) (hg : (wr.alloc o).grownBy w7 v.ownBlock) : Below B w0 w7 :=
  (h.alloc hw _).grown hg (by simp; omega) (fun q hq => Nat.le_trans hB (hown.lt q hq).1)

end Go.Proofs.YtbbcnagognimlaaGreat.Tr

/- The reference's IDs, Leaves, Root, Rise, Level. -/
namespace Go.Proofs.YtbbcnagognimlaaGreat.Tr
open Go.RowKit Go.Maps Go.Proofs.YtbbcnagognimlaaGreat.Wd Go.Proofs.YtbbcnagognimlaaGreat.Li Go.Proofs.YtbbcnagognimlaaGreat.Mp Go.Proofs.YtbbcnagognimlaaGreat.Tp Go.Proofs.YtbbcnagognimlaaGreat.Cl Go.Proofs.YtbbcnagognimlaaGreat.So Go.Proofs.YtbbcnagognimlaaGreat.Sw
attribute [local go_sem] run_store_float

theorem ids_take {l : List Cls} {k : Nat} {x : Cls} (h : (sortC l)[k]? = some x) : ids ((sortC l).take (k + 1)) = ids ((sortC l).take k) ++ [x.id] := by unfold ids; rw [List.take_add_one, h, List.map_append]; rfl
theorem ids_take_len (l : List Cls) (k : Nat) : (ids ((sortC l).take k)).length ≤ k := by unfold ids; rw [List.length_map]; exact List.length_take_le _ _
/-- the leaves among the first k -/
def leavesP (l : List Cls) (k : Nat) : List Int := (ids ((sortC l).take k)).filter (fun i => decide ((kids l i).length = 0))
def leavesS (l : List Cls) : List Int := (ids (sortC l)).filter (fun i => decide ((kids l i).length = 0))
theorem leavesP_all (l : List Cls) : leavesP l (sortC l).length = leavesS l := by unfold leavesP leavesS; rw [List.take_length]
theorem leavesP_in {l : List Cls} {k : Nat} {x : Cls} (h : (sortC l)[k]? = some x) (h0 : (kids l x.id).length = 0) : leavesP l (k + 1) = leavesP l k ++ [x.id] := by unfold leavesP; rw [ids_take h, List.filter_append]; simp [List.length_eq_zero_iff.1 h0]
theorem leavesP_out {l : List Cls} {k : Nat} {x : Cls} (h : (sortC l)[k]? = some x) (h0 : (kids l x.id).length ≠ 0) : leavesP l (k + 1) = leavesP l k := by
  unfold leavesP; rw [ids_take h, List.filter_append]
  have : [x.id].filter (fun i => decide ((kids l i).length = 0)) = [] := by rw [List.filter_cons_of_neg (by simpa using h0)]; rfl
  rw [this, List.append_nil]
theorem leavesP_len (l : List Cls) (k : Nat) : (leavesP l k).length ≤ k := Nat.le_trans (List.length_filter_le _ _) (ids_take_len l k)
end Go.Proofs.YtbbcnagognimlaaGreat.Tr

/- The reference's Rise, Level. -/
namespace Go.Proofs.YtbbcnagognimlaaGreat.Tr
open Go.RowKit Go.Maps Go.Proofs.YtbbcnagognimlaaGreat.Wd Go.Proofs.YtbbcnagognimlaaGreat.Li Go.Proofs.YtbbcnagognimlaaGreat.Mp Go.Proofs.YtbbcnagognimlaaGreat.Tp Go.Proofs.YtbbcnagognimlaaGreat.Cl Go.Proofs.YtbbcnagognimlaaGreat.So Go.Proofs.YtbbcnagognimlaaGreat.Sw
attribute [local go_sem] run_store_float

theorem rise_some {l : List Cls} {id : Int} {c : Cls} (h : at? l id = some c) (n : Nat) : rise l (n + 1) id = rise l n c.parent := by rw [rise_succ, h]
def RetB (v : Value) (w : World) (e : Ending) (w' : World) : Prop := e = .returned v ∧ Below w.heap.size w w'
end Go.Proofs.YtbbcnagognimlaaGreat.Tr

/- The reference's Check. -/
namespace Go.Proofs.YtbbcnagognimlaaGreat.Tr
open Go.RowKit Go.Maps Go.Proofs.YtbbcnagognimlaaGreat.Wd Go.Proofs.YtbbcnagognimlaaGreat.Li Go.Proofs.YtbbcnagognimlaaGreat.Mp Go.Proofs.YtbbcnagognimlaaGreat.Tp Go.Proofs.YtbbcnagognimlaaGreat.Cl Go.Proofs.YtbbcnagognimlaaGreat.So Go.Proofs.YtbbcnagognimlaaGreat.Sw
attribute [local go_sem] run_store_float

variable {l : List Cls}
theorem check_is (hne : l.length ≠ 0) (h64 : ¬ 64 < l.length) : checkS l = scan l l.length := by unfold checkS; rw [if_neg hne, if_neg h64]

end Go.Proofs.YtbbcnagognimlaaGreat.Tr
