/- The way up of a class: a list of classes; paths.Up: an iterator that only reads. paths.Up: the walk of its iterator. paths.Under. paths.Meet. paths.Apart. paths.Below. paths.Lenders. paths.Path. -/
import Derived.Test.YtpchhfhmopmagaaGreatTr12
import Derived.RangeFuncBox
import Derived.RangeFuncNested
import Derived.RangeFuncLeaves
import Derived.Shelf.Abstract
import Derived.WalkKit
import Derived.OwnWalkIn
import Derived.TacticsInMore
import Derived.LoopNIn
import Derived.LoopIn
import Derived.Test.YtpchhfhmopmagaaGreatTp6
import Derived.Maps.AppendAt
set_option linter.unusedVariables false
set_option linter.unusedSimpArgs false
/- The way up of a class: a list of classes; paths.Up: an iterator that only reads. -/
namespace Go.Proofs.YtpchhfhmopmagaaGreat.Pa
open Go.RowKit Go.Shelf Go.Maps Go.Proofs.YtpchhfhmopmagaaGreat.Wd Go.Proofs.YtpchhfhmopmagaaGreat.Li Go.Proofs.YtpchhfhmopmagaaGreat.Mp Go.Proofs.YtpchhfhmopmagaaGreat.Tp Go.Proofs.YtpchhfhmopmagaaGreat.Tr Go.Proofs.YtpchhfhmopmagaaGreat.Cl Go.Proofs.YtpchhfhmopmagaaGreat.So
attribute [local go_sem] Oper.semAt_some

/-- a class of l, found by its id -/
abbrev Ci (l : List Cls) := { c : Cls // at? l c.id = some c }
/-- classes that are a tree, or none at all -/
def Fit (l : List Cls) : Prop := l = [] ∨ Tp.Tree l
def wayN (l : List Cls) : Nat → Int → List (Ci l)
  | 0, _ => []
  | n + 1, id => match h : at? l id with
    | none => []
    | some c => ⟨c, by have := (at_mem h).2; rw [this]; exact h⟩ :: wayN l n c.parent
/-- the way up from a class, it itself first -/
def way (l : List Cls) (id : Int) : List (Ci l) := wayN l 65 id
variable {l : List Cls}
theorem wayN_none {id : Int} (h : at? l id = none) (n : Nat) : wayN l n id = [] := by
  cases n with
  | zero => rfl
  | succ n => unfold wayN; split
              · rfl
              · rename_i h'; rw [h] at h'; cases h'
theorem wayN_some {id : Int} {c : Cls} (h : at? l id = some c) (hc : at? l c.id = some c) (n : Nat) : wayN l (n + 1) id = ⟨c, hc⟩ :: wayN l n c.parent := by
  rw [wayN]; split
  · rename_i h'; rw [h] at h'; cases h'
  · rename_i d h'; rw [h] at h'; cases h'; rfl
theorem wayN_len : ∀ (n : Nat) (id : Int), (wayN l n id).length ≤ n
  | 0, _ => Nat.le_refl _
  | n + 1, id => by
    cases h : at? l id with
    | none => rw [wayN_none h]; exact Nat.zero_le _
    | some c => rw [wayN_some h (by have := (at_mem h).2; rw [this]; exact h)]; exact Nat.succ_le_succ (wayN_len n c.parent)
theorem wayN_stable : ∀ (n : Nat) (id : Int), at? l (rise l n id) = none → wayN l (n + 1) id = wayN l n id
  | 0, id, h => wayN_none h 1
  | n + 1, id, h => by
    cases hc : at? l id with
    | none => rw [wayN_none hc, wayN_none hc]
    | some c =>
      have hk : at? l c.id = some c := by have := (at_mem hc).2; rw [this]; exact hc
      rw [wayN_some hc hk, wayN_some hc hk, wayN_stable n c.parent (by rw [rise_some hc] at h; exact h)]
theorem way_none {id : Int} (h : at? l id = none) : way l id = [] := wayN_none h 65
theorem way_len (id : Int) : (way l id).length ≤ 65 := wayN_len 65 id
theorem way_some (F : Fit l) {id : Int} {c : Cls} (h : at? l id = some c) (hc : at? l c.id = some c) : way l id = ⟨c, hc⟩ :: way l c.parent := by
  rcases F with rfl | R
  · cases h
  · unfold way
    rw [wayN_some h hc, ← wayN_stable 64 c.parent ?_]
    have := (ring_iff R.good R.root R.le).2 R.all id (by rw [← (at_mem h).2]; exact List.mem_map.2 ⟨c, (at_mem h).1, rfl⟩)
    rw [rise_some h] at this
    rw [this]; exact at_zero R.good
theorem Fit.pos (F : Fit l) {id : Int} {c : Cls} (h : at? l id = some c) : 1 ≤ c.id ∧ c.id ≤ 65535 ∧ 0 ≤ c.parent ∧ c.parent ≤ 65535 := by
  rcases F with rfl | R
  · cases h
  · exact R.good.pos c (at_mem h).1
theorem wf_small {i : Int} (h : 0 ≤ i) (h' : i ≤ 65535) : (Lit.int .i64 i).wf = true := by simp [Lit.wf, IntKind.min, IntKind.max, IntKind.bits, IntKind.signed]; omega

/-- the pointer is a tree's over l, or nil and there is none -/
def TreeV (w : World) (B : Nat) (v : Value) (l : List Cls) : Prop := (v = .pointer none ∧ l = []) ∨ ∃ T, v = .pointer (some ⟨T, 0, none⟩) ∧ TreeAt w B T l ∧ Tp.Tree l
theorem TreeV.below {w w' : World} {B : Nat} {v : Value} (hb : Below B w w') (t : TreeV w B v l) : TreeV w' B v l := by
  rcases t with h | ⟨T, e, h, r⟩
  · exact .inl h
  · exact .inr ⟨T, e, h.below hb, r⟩
theorem TreeV.up {w : World} {B B' : Nat} {v : Value} (hB : B ≤ B') (t : TreeV w B v l) : TreeV w B' v l := by
  rcases t with h | ⟨T, e, h, r⟩
  · exact .inl h
  · exact .inr ⟨T, e, h.up hB, r⟩
theorem TreeV.ptr {w : World} {B : Nat} {v : Value} (t : TreeV w B v l) : ∃ p, v = .pointer p := by
  rcases t with ⟨h, _⟩ | ⟨_, h, _⟩ <;> exact ⟨_, h⟩
theorem vclass_c (v : Value) (id : Int) (hid : (Lit.int .i64 id).wf = true) (w : World) (t : TreeV w w.heap.size v l) : Calls Tryz.prog 63 #[v, .int .i64 id] w (ClassOk (at? l id) w) := by
  rcases t with ⟨rfl, rfl⟩ | ⟨T, rfl, h, _⟩
  · exact nclass id w
  · exact tclass_c T l id hid w h
end Go.Proofs.YtpchhfhmopmagaaGreat.Pa

/- paths.Up: the walk of its iterator. -/
namespace Go.Proofs.YtpchhfhmopmagaaGreat.Pa
open Go.RowKit Go.Shelf Go.Maps Go.Proofs.YtpchhfhmopmagaaGreat.Wd Go.Proofs.YtpchhfhmopmagaaGreat.Li Go.Proofs.YtpchhfhmopmagaaGreat.Mp Go.Proofs.YtpchhfhmopmagaaGreat.Tp Go.Proofs.YtpchhfhmopmagaaGreat.Tr Go.Proofs.YtpchhfhmopmagaaGreat.Cl Go.Proofs.YtpchhfhmopmagaaGreat.So Go.Proofs.YtpchhfhmopmagaaGreat.Sw
attribute [local go_sem] Oper.semAt_some run_store_float

theorem wpListIn_store_whole {F : Fence} {n : Nat} {P : Program} {ops : Array Oper} {rest : List Oper} {o : Oper} {a : Act} {Q : Exit → Act → World → Prop} {w : World} (hgd : o.guard = none) (t : TypeId) (p v : Operand)
    (ho : o.op = .store t p v) (sz : Nat) (hso : ∀ w, (sizeOf t).run P w = .ok sz w) (g : Nat) (old cs : Array Value) (e : TypeId) (hp : a.eval p = .pointer (some ⟨g, 0, none⟩)) (hv : a.eval v = .agg cs) (hb : w.heap[g]? = some (.cells old e (0, 0))) (hsz : old.size = cs.size) (hcs : cs.size = sz)
    (h1 : ∀ u ∈ cs.toList, u.oneCell' = true)
    (h : ∀ w3, w3.heap[g]? = some (.cells cs e (0, 0)) → w.grownBy w3 (some g) → wpListIn F n P ops Q rest (a.put o.dst undef) w3) : wpListIn F n P ops Q (o :: rest) a w := by
  refine wpListIn_plain hgd fun K hK => ?_
  have hrun := run_storeCells_at (P := P) g 0 e cs.toList 0 old w hb (by simp [hsz]) h1
  have hrow : (old.toList.take (0 + 0) ++ cs.toList ++ old.toList.drop (0 + 0 + cs.toList.length)).toArray = cs := by
    have h0 : old.toList.drop (0 + 0 + cs.toList.length) = [] := List.drop_eq_nil_of_le (by simp [hsz])
    rw [h0]; simp
  rw [hrow] at hrun
  unfold Oper.wpIn
  refine ⟨by simp [Oper.about, ho], ?_⟩
  rw [Oper.semAt_plain F _ _ (by rw [ho]; intro c hc'; cases hc')]
  simp [execOp, ho, hp, hv, Instr.storeAt, Instr.sureAddr, storeVar, hso, Value.cells, hcs, hrun, Result.andThen]
  exact hK _ _ (h _ (setRow_heap w g old cs e _ hb) (setRow_grown w g cs))

/-- the types whose blocks no round writes -/
def Kt (t : TypeId) : Prop := t = 84 ∨ t = 39
/-- what a round keeps: what lay below, and every class and every tree's pointer that lies in a block of its own -/
def KpU (n₀ : Nat) (W W' : World) : Prop := Below n₀ W W' ∧ ∀ (k : Nat) (cs : Array Value) (t : TypeId), Kt t → W.heap[k]? = some (.cells cs t (0, 0)) → W'.heap[k]? = some (.cells cs t (0, 0))
theorem KpU.refl (n₀ : Nat) (A : World) : KpU n₀ A A := ⟨Below.refl _ _, fun _ _ _ _ h => h⟩
theorem KpU.trans {n₀ : Nat} {A B C : World} (h : KpU n₀ A B) (k : KpU n₀ B C) : KpU n₀ A C := ⟨h.1.trans k.1, fun i cs t ht hi => k.2 i cs t ht (h.2 i cs t ht hi)⟩
theorem KpU.of_below {n₀ : Nat} {A B : World} (hn : n₀ ≤ A.heap.size) (h : Below A.heap.size A B) : KpU n₀ A B := ⟨h.mono hn, fun i _cs _t _ hi => (h.block i (Array.getElem?_eq_some_iff.1 hi).1).trans hi⟩
theorem KpU.of_grown {n₀ k : Nat} {A B : World} (h : Below n₀ A B) (hg : A.grownBy B (some k)) (hk : ∀ cs t, Kt t → A.heap[k]? ≠ some (.cells cs t (0, 0))) : KpU n₀ A B :=
  ⟨h, fun i cs t ht hi => by
    by_cases e : i = k
    · subst e; exact absurd hi (hk cs t ht)
    · exact (hg.block i (Array.getElem?_eq_some_iff.1 hi).1 (fun e' => e (by injection e'))).trans hi⟩
theorem kpU_b {n₀ : Nat} {w : World} (hB : n₀ ≤ w.heap.size) : ∀ (W : World) (l : Nat) (o o' : Obj), w.heap.size ≤ l → W.heap[l]? = some o → o.isCells = false → o.isWalk = false → KpU n₀ W (W.putObj l o') := fun W l o o' hl ho hc hw =>
  .of_grown (belowK_b hB W l o o' hl ho hc hw) (grownBy_putObj' W l o') (fun cs t _ e => by rw [ho] at e; cases e; cases hc)
theorem grown_of_below {A B : World} (h : Below A.heap.size A B) : A.grownBy B none := ⟨h.os, h.tape, h.output, h.size, fun k hk _ => h.block k hk⟩

def encU (l : List Cls) (x : Ci l) : Array Value := #[.int .i64 x.1.id]

set_option maxRecDepth 20000 in
set_option maxHeartbeats 1000000 in
theorem up1_in (n : Nat) (hn : 1 ≤ n) (k Bi Bt n₀ : Nat) (l : List Cls) (F0 : Fit l) (id : Int) (hid : (Lit.int .i64 id).wf = true) (v : Value) (J Jx : List (Ci l) → World → Prop)
    (hY : ∀ pre x W, J pre W → pre.length < 65 → YieldAt Fence.wide (n - 1) Tryz.prog k (encU l x) W fun e W' =>
      (e = .returned (.bool true) ∧ J (pre ++ [x]) W' ∧ KpU n₀ W W') ∨ (e = .returned (.bool false) ∧ Jx (pre ++ [x]) W'))
    (W : World) (hn₀ : n₀ ≤ W.heap.size) (hJ : AbidesFrom W.heap.size J) (hBi : W.cell? ⟨Bi, 0, none⟩ = some (.int .i64 id)) (hBt : W.heap[Bt]? = some (.cells #[v] 39 (0, 0)))
    (ht : TreeV W n₀ v l) (h0 : J [] W) :
    CallsIn Fence.wide n Tryz.prog 136 #[.func (.yield k) #[] #[], .pointer (some ⟨Bi, 0, none⟩), .pointer (some ⟨Bt, 0, none⟩)] W fun e W' => (∃ v, e = .returned v) ∧
      (J (way l id) W' ∨ (∃ pre, pre <+: way l id ∧ Jx pre W')) := by
  refine callsIn_of_wp Tryz.func136 rfl trivial ?_ rfl
  simp only [Tryz.ntmps136, List.size_toArray, List.length_cons, List.length_nil, Nat.reduceAdd, Nat.reduceSub, Array.replicate_succ, Array.replicate_zero, List.push_toArray, List.append_toArray, List.nil_append, List.cons_append]
  gi_wp2
  gi_loopw [4] (fun i wr => ∃ (pre : List (Ci l)) (at_ : Int), i = .int .i64 at_ ∧ (Lit.int .i64 at_).wf = true ∧ way l id = pre ++ way l at_ ∧ J pre wr ∧ KpU n₀ W wr)
    (fun i _ => (way l (intOf i)).length)
  case atStart => exact ⟨[], id, rfl, hid, rfl, h0, KpU.refl _ _⟩
  case round =>
    obtain ⟨pre, at_, rfl, hwf, hway, hJs, hnx⟩ := hrel
    have hsz : n₀ ≤ wr.heap.size := Nat.le_trans hn₀ hnx.1.size
    have hcon := callsIn_wide (n := n - 1) |>.2 (vclass_c v at_ hwf wr ((ht.below hnx.1).up hsz))
    have hbt := cells_at (hnx.2 _ _ _ (.inr rfl) hBt) 0 _ rfl
    have hbt2 : wr.cell? ⟨Bt, 0, none⟩ = some v := hbt
    unfold ClassOk clsV at hcon
    cases hcl : at? l at_ with
    | none =>
      rw [hcl] at hcon
      dsimp only [Option.getD, Option.isSome, clsZ] at hcon
      have hw0 : way l at_ = [] := way_none hcl
      rw [hw0, List.append_nil] at hway
      have HC := Lib.hid hcon
      have HW := Lib.hid hway
      have HJ := Lib.hid hJs
      clear hcon hway hcl hw0 hbt ht hJs
      gi_wp2_with (first
        | (refine ⟨trivial, ?_⟩; gi_at_call 63; (with_reducible refine (HC.out).mono ?_); rintro e w1 ⟨rfl, hb1⟩; have HB1 := Lib.hid hb1; clear hb1
           have HH0 := Lib.hid (heap_alloc_new w1 (.cells #[.int .i64 0, .int .i64 0, .float .f64 0, .int .i64 0, .int .i64 0, .int .i64 0, .int .i64 0, .int .i64 0, .int .i64 0, .bool false, .bool false] 84)))
        | (refine wpListIn_store_whole (by rfl) 84 _ _ (by rfl) 11 Tryz.sizeOf84 w1.heap.size _ _ 84 (by rfl) (by rfl) HH0.out (by rfl) (by rfl) (by simp [Value.oneCell']) ?_; intro w5 hb5 hg5; have HB5 := Lib.hid hb5; have HG5 := Lib.hid hg5; clear hb5 hg5))
      refine ⟨(fun _ h => by cases h), ?_⟩
      gi_wp2
      refine bodyPost_ret (results_none rfl _ _ _) rfl ?_
      have hB5 : Below wr.heap.size wr w5 := (HB1.out.alloc HB1.out.size _).grown HG5.out (by have := HB1.out.size; simp; omega) (fun q hq => by injection hq with hq; subst hq; exact HB1.out.size)
      refine ⟨⟨_, rfl⟩, .inl ?_⟩
      rw [HW.out]
      exact hJ _ wr w5 none HJ.out (grown_of_below hB5) (fun r e => by cases e)
    | some c =>
      have hcc : at? l c.id = some c := by rw [(at_mem hcl).2]; exact hcl
      rw [hcl] at hcon
      dsimp only [Option.getD, Option.isSome] at hcon
      have hw0 : way l at_ = ⟨c, hcc⟩ :: way l c.parent := way_some F0 hcl hcc
      have hlen : pre.length < 65 := by have h1 := way_len (l := l) id; rw [hway, hw0] at h1; simp at h1; omega
      have hid2 : c.id = at_ := (at_mem hcl).2
      have hpos := F0.pos hcl
      have hwf2 : (Lit.int .i64 c.parent).wf = true := wf_small hpos.2.2.1 hpos.2.2.2
      have HC := Lib.hid hcon
      have HW := Lib.hid hway
      have HW0 := Lib.hid hw0
      have HJ := Lib.hid hJs
      have HL := Lib.hid hlen
      have HI := Lib.hid hid2
      clear hcon hway hcl hw0 hbt ht hJs hlen hid2 hpos
      gi_wp2_with (first
        | (refine ⟨trivial, ?_⟩; gi_at_call 63; (with_reducible refine (HC.out).mono ?_); rintro e w1 ⟨rfl, hb1⟩; have HB1 := Lib.hid hb1; clear hb1
           have HH0 := Lib.hid (heap_alloc_new w1 (.cells #[.int .i64 0, .int .i64 0, .float .f64 0, .int .i64 0, .int .i64 0, .int .i64 0, .int .i64 0, .int .i64 0, .int .i64 0, .bool false, .bool false] 84)))
        | (refine wpListIn_store_whole (by rfl) 84 _ _ (by rfl) 11 Tryz.sizeOf84 w1.heap.size _ _ 84 (by rfl) (by rfl) HH0.out (by rfl) (by rfl) (by simp [Value.oneCell']) ?_; intro w5 hb5 hg5
           have hB5 : Below wr.heap.size wr w5 := (HB1.out.alloc HB1.out.size _).grown hg5 (by have := HB1.out.size; simp; omega) (fun q hq => by injection hq with hq; subst hq; exact HB1.out.size)
           obtain ⟨fn, tmps, assign, body, hy, hR⟩ := hY pre ⟨c, hcc⟩ w5 (hJ _ wr w5 none HJ.out (grown_of_below hB5) (fun r e => by cases e)) HL.out
           dsimp only [encU] at hy
           rw [HI.out] at hy
           have HR := Lib.hid hR
           have HB5 := Lib.hid hb5; have HG5 := Lib.hid hB5; clear hb5 hg5 hB5 hR))
      refine HR.out.mono ?_
      rintro e W3 (⟨rfl, hJ3, hk3⟩ | ⟨rfl, hJx3⟩)
      · have hp3 := cells_at (hk3.2 _ _ _ (.inl rfl) HB5.out) 1 _ rfl
        have hn3 : KpU n₀ W W3 := hnx.trans ((KpU.of_below hsz HG5.out).trans hk3)
        have HN3 := Lib.hid hn3
        have HJ3 := Lib.hid hJ3
        clear hn3 hk3 hJ3
        gi_wp2
        go_roundw
        case rel => exact ⟨pre ++ [⟨c, hcc⟩], c.parent, rfl, hwf2, by rw [HW.out, HW0.out]; simp, HJ3.out, HN3.out⟩
        case measure => rw [show intOf (.int .i64 c.parent) = c.parent from rfl, show intOf (.int .i64 at_) = at_ from rfl, HW0.out]; simp
      · gi_wp2
        refine bodyPost_ret (results_none rfl _ _ _) rfl ?_
        refine ⟨⟨_, rfl⟩, .inr ⟨_, ?_, hJx3⟩⟩
        rw [HW.out, HW0.out]; exact ⟨way l c.parent, by simp⟩

theorem up_stops (n : Nat) (hn : 1 ≤ n) (Bi Bt n₀ : Nat) (l : List Cls) (F0 : Fit l) (id : Int) (hid : (Lit.int .i64 id).wf = true) (v : Value) (w : World) (hn₀ : n₀ ≤ w.heap.size)
    (hBi0 : Bi < w.heap.size) (hBt0 : Bt < w.heap.size) (hBi : w.cell? ⟨Bi, 0, none⟩ = some (.int .i64 id)) (hBt : w.heap[Bt]? = some (.cells #[v] 39 (0, 0))) (ht : TreeV w n₀ v l) :
    SeqStopsK Fence.wide n Tryz.prog 136 #[.pointer (some ⟨Bi, 0, none⟩), .pointer (some ⟨Bt, 0, none⟩)] (encU l) (KpU n₀) (fun ys => ys = way l id) (fun pre => pre <+: way l id) 65 w := fun k J Jx W hW hJ _ hY h0 => by
  refine (up1_in n hn k Bi Bt n₀ l F0 id hid v J Jx hY W (Nat.le_trans hn₀ hW.size) hJ ((hW.cell (p := ⟨Bi, 0, none⟩) hBi0).trans hBi) ((hW.block _ hBt0).trans hBt) (ht.below (hW.mono hn₀)) h0).mono ?_
  rintro e W' ⟨he, hj | ⟨pre, hp, hj⟩⟩
  · exact ⟨he, .inl ⟨_, rfl, hj⟩⟩
  · exact ⟨he, .inr ⟨_, hp, hj⟩⟩

set_option maxHeartbeats 1000000 in
/-- paths.Up(t, id): two boxes; the function value captures them. -/
theorem up_c (p : Option Addr) (id : Int) (w : World) :
    Calls Tryz.prog 62 #[.pointer p, .int .i64 id] w fun e w' => e = .returned (.func (.func 136) #[] #[.pointer (some ⟨w.heap.size + 1, 0, none⟩), .pointer (some ⟨w.heap.size, 0, none⟩)]) ∧
      w' = (w.alloc (.cells #[.pointer p] 39)).alloc (.cells #[.int .i64 id] 3) := by
  go_enter Tryz.func62, Tryz.ntmps62
  go_wp2
  go_ret
  exact ⟨rfl, rfl⟩
end Go.Proofs.YtpchhfhmopmagaaGreat.Pa

/- paths.Under. -/
namespace Go.Proofs.YtpchhfhmopmagaaGreat.Pa
open Go.RowKit Go.Shelf Go.Maps Go.Proofs.YtpchhfhmopmagaaGreat.Wd Go.Proofs.YtpchhfhmopmagaaGreat.Li Go.Proofs.YtpchhfhmopmagaaGreat.Mp Go.Proofs.YtpchhfhmopmagaaGreat.Tp Go.Proofs.YtpchhfhmopmagaaGreat.Tr Go.Proofs.YtpchhfhmopmagaaGreat.Cl Go.Proofs.YtpchhfhmopmagaaGreat.So Go.Proofs.YtpchhfhmopmagaaGreat.Sw
attribute [local go_sem] Oper.semAt_some run_store_float

def wids (l : List Cls) (id : Int) : List Int := (way l id).map (fun x => x.1.id)
end Go.Proofs.YtpchhfhmopmagaaGreat.Pa

/- paths.Meet. -/
namespace Go.Proofs.YtpchhfhmopmagaaGreat.Pa
open Go.RowKit Go.Shelf Go.Maps Go.Proofs.YtpchhfhmopmagaaGreat.Wd Go.Proofs.YtpchhfhmopmagaaGreat.Li Go.Proofs.YtpchhfhmopmagaaGreat.Mp Go.Proofs.YtpchhfhmopmagaaGreat.Tp Go.Proofs.YtpchhfhmopmagaaGreat.Tr Go.Proofs.YtpchhfhmopmagaaGreat.Cl Go.Proofs.YtpchhfhmopmagaaGreat.So Go.Proofs.YtpchhfhmopmagaaGreat.Sw
attribute [local go_sem] Oper.semAt_some run_store_float

theorem keeps_below {A B : World} (h : Below A.heap.size A B) : KeepsOthers A B := KeepsOthers.of_grownBy (grown_of_below h) (fun j o ej _ => by cases ej)

end Go.Proofs.YtpchhfhmopmagaaGreat.Pa

/- paths.Apart. -/
namespace Go.Proofs.YtpchhfhmopmagaaGreat.Pa
open Go.RowKit Go.Shelf Go.Maps Go.Proofs.YtpchhfhmopmagaaGreat.Wd Go.Proofs.YtpchhfhmopmagaaGreat.Li Go.Proofs.YtpchhfhmopmagaaGreat.Mp Go.Proofs.YtpchhfhmopmagaaGreat.Tp Go.Proofs.YtpchhfhmopmagaaGreat.Tr Go.Proofs.YtpchhfhmopmagaaGreat.Cl Go.Proofs.YtpchhfhmopmagaaGreat.So Go.Proofs.YtpchhfhmopmagaaGreat.Sw
attribute [local go_sem] Oper.semAt_some run_store_float

end Go.Proofs.YtpchhfhmopmagaaGreat.Pa

/- paths.Below. -/
namespace Go.Proofs.YtpchhfhmopmagaaGreat.Pa
open Go.RowKit Go.Maps Go.Proofs.YtpchhfhmopmagaaGreat.Wd Go.Proofs.YtpchhfhmopmagaaGreat.Li Go.Proofs.YtpchhfhmopmagaaGreat.Mp Go.Proofs.YtpchhfhmopmagaaGreat.Tp Go.Proofs.YtpchhfhmopmagaaGreat.Tr Go.Proofs.YtpchhfhmopmagaaGreat.Cl Go.Proofs.YtpchhfhmopmagaaGreat.So Go.Proofs.YtpchhfhmopmagaaGreat.Sw
attribute [local go_sem] run_store_float

theorem leaf_mem {l : List Cls} {i : Int} (h : i ∈ leavesS l) : i ∈ ids l := (sort_ids i).1 (List.mem_filter.1 h).1
theorem leaves_len (l : List Cls) : (leavesS l).length ≤ l.length := Nat.le_trans (List.length_filter_le _ _) (by rw [ids_len]; exact Nat.le_refl _)
theorem Fit.le {l : List Cls} (F : Fit l) : l.length ≤ 64 := by
  rcases F with rfl | R
  · simp
  · exact R.le
theorem Fit.wf {l : List Cls} (F : Fit l) {i : Int} (h : i ∈ ids l) : (Lit.int .i64 i).wf = true := by
  obtain ⟨c, hc⟩ := at_of_mem h
  have := F.pos hc
  rw [(at_mem hc).2] at this
  exact wf_small (by omega) this.2.1
end Go.Proofs.YtpchhfhmopmagaaGreat.Pa

/- paths.Lenders. -/
namespace Go.Proofs.YtpchhfhmopmagaaGreat.Pa
open Go.RowKit Go.Shelf Go.Maps Go.Proofs.YtpchhfhmopmagaaGreat.Wd Go.Proofs.YtpchhfhmopmagaaGreat.Li Go.Proofs.YtpchhfhmopmagaaGreat.Mp Go.Proofs.YtpchhfhmopmagaaGreat.Tp Go.Proofs.YtpchhfhmopmagaaGreat.Tr Go.Proofs.YtpchhfhmopmagaaGreat.Cl Go.Proofs.YtpchhfhmopmagaaGreat.So Go.Proofs.YtpchhfhmopmagaaGreat.Sw
attribute [local go_sem] Oper.semAt_some run_store_float

def brw (x : Cls) : Bool := !x.bounded && !x.isolated
def goes {l : List Cls} (x : Ci l) : Bool := brw x.1 && !(x.1.parent == 0)
def pars {l : List Cls} (zs : List (Ci l)) : List Int := zs.map (fun y => y.1.parent)
def lendS (l : List Cls) (id : Int) : List Int := pars ((way l id).takeWhile goes)
theorem KpU.appended {n₀ B : Nat} {W w8 : World} {t e : TypeId} {size k : Nat} {v v' : Value} {xs : List Value} {tmp : Obj} (hb : Boxed W B t v) (ht : ¬ Kt t) (he : ¬ Kt e) (hrow : W.ownsRow n₀ e size v k xs) (hg : (W.alloc tmp).grownBy w8 v.ownBlock)
    (hB : Below n₀ W (w8.setCell ⟨B, 0, none⟩ v')) : KpU n₀ W (w8.setCell ⟨B, 0, none⟩ v') :=
  ⟨hB, fun i cs t' ht' hi => by
    have hlt := (Array.getElem?_eq_some_iff.1 hi).1
    have h1 := (Below.heap_alloc W tmp i hlt).trans hi
    have hne : some i ≠ v.ownBlock := by
      rcases hrow.2 with ⟨rfl, _⟩ | ⟨g, cap, cur, rfl, _, hgb, _⟩
      · simp [Value.ownBlock]
      · intro e'
        obtain rfl : i = g := by simpa [Value.ownBlock] using e'
        rw [hgb] at hi; cases hi; exact he ht'
    have h2 := (hg.block i (by simp; omega) hne).trans h1
    have hnB : some i ≠ some B := by intro e'; injection e' with e'; subst e'; rw [show W.heap[i]? = _ from hb] at hi; cases hi; exact ht ht'
    exact ((grownBy_setCell' w8 B v').block i (Array.getElem?_eq_some_iff.1 h2).1 hnB).trans h2⟩
theorem info3 : (Tryz.prog.info? 3).map (fun i => (i.zero, i.size, i.bytes)) = some (some (.int .i64 0), 1, 8) := by kernel_rfl

end Go.Proofs.YtpchhfhmopmagaaGreat.Pa

/- paths.Path. -/
namespace Go.Proofs.YtpchhfhmopmagaaGreat.Pa
open Go.RowKit Go.Shelf Go.Maps Go.Proofs.YtpchhfhmopmagaaGreat.Wd Go.Proofs.YtpchhfhmopmagaaGreat.Li Go.Proofs.YtpchhfhmopmagaaGreat.Mp Go.Proofs.YtpchhfhmopmagaaGreat.Tp Go.Proofs.YtpchhfhmopmagaaGreat.Tr Go.Proofs.YtpchhfhmopmagaaGreat.Cl Go.Proofs.YtpchhfhmopmagaaGreat.So Go.Proofs.YtpchhfhmopmagaaGreat.Sw
attribute [local go_sem] Oper.semAt_some run_store_float

end Go.Proofs.YtpchhfhmopmagaaGreat.Pa
