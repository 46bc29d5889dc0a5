/- The way up of a class: a list of classes; paths.Up: an iterator that only reads. paths.Up: the walk of its iterator. paths.Under. paths.Meet. paths.Apart. paths.Below. paths.Lenders. paths.Path. -/
import Derived.Test.YtpchhfhmopmagaaGreatTr12
import Derived.RangeFuncBox
import Derived.RangeFuncNested
import Derived.RangeFuncLeaves
import Derived.Shelf.Abstract
import Derived.WalkKit
import Derived.OwnWalkIn
import Derived.TacticsInMore
import Derived.LoopNIn
import Derived.LoopIn
import Derived.Test.YtpchhfhmopmagaaGreatTp6
import Derived.Maps.AppendAt
set_option linter.unusedVariables false
set_option linter.unusedSimpArgs false
/- The way up of a class: a list of classes; paths.Up: an iterator that only reads. -/
namespace Go.Proofs.YtpchhfhmopmagaaGreat.Pa
open Go.RowKit Go.Shelf Go.Maps Go.Proofs.YtpchhfhmopmagaaGreat.Wd Go.Proofs.YtpchhfhmopmagaaGreat.Li Go.Proofs.YtpchhfhmopmagaaGreat.Mp Go.Proofs.YtpchhfhmopmagaaGreat.Tp Go.Proofs.YtpchhfhmopmagaaGreat.Tr Go.Proofs.YtpchhfhmopmagaaGreat.Cl Go.Proofs.YtpchhfhmopmagaaGreat.So
attribute [local go_sem] Oper.semAt_some

/-- a class of l, found by its id -/
abbrev Ci (l : List Cls) := { c : Cls // at? l c.id = some c }
/-- classes that are a tree, or none at all -/
def Fit (l : List Cls) : Prop := l = [] ∨ Tp.Tree l
def wayN (l : List Cls) : Nat → Int → List (Ci l)
  | 0, _ => []
  | n + 1, id => match h : at? l id with
    | none => []
    | some c => ⟨c, by have := (at_mem h).2; rw [this]; exact h⟩ :: wayN l n c.parent
/-- the way up from a class, it itself first -/
def way (l : List Cls) (id : Int) : List (Ci l) := wayN l 65 id
variable {l : List Cls}
theorem wayN_none {id : Int} (h : at? l id = none) (n : Nat) : wayN l n id = [] := by
  cases n with
  | zero => rfl
  | succ n => unfold wayN; split
              · rfl
              · rename_i h'; rw [h] at h'; cases h'
theorem wayN_some {id : Int} {c : Cls} (h : at? l id = some c) (hc : at? l c.id = some c) (n : Nat) : wayN l (n + 1) id = ⟨c, hc⟩ :: wayN l n c.parent := by
  rw [wayN]; split
  · rename_i h'; rw [h] at h'; cases h'
  · rename_i d h'; rw [h] at h'; cases h'; rfl
theorem wayN_len : ∀ (n : Nat) (id : Int), (wayN l n id).length ≤ n
  | 0, _ => Nat.le_refl _
  | n + 1, id => by
    cases h : at? l id with
    | none => rw [wayN_none h]; exact Nat.zero_le _
    | some c => rw [wayN_some h (by have := (at_mem h).2; rw [this]; exact h)]; exact Nat.succ_le_succ (wayN_len n c.parent)
theorem wayN_stable : ∀ (n : Nat) (id : Int), at? l (rise l n id) = none → wayN l (n + 1) id = wayN l n id
  | 0, id, h => wayN_none h 1
  | n + 1, id, h => by
    cases hc : at? l id with
    | none => rw [wayN_none hc, wayN_none hc]
    | some c =>
      have hk : at? l c.id = some c := by have := (at_mem hc).2; rw [this]; exact hc
      rw [wayN_some hc hk, wayN_some hc hk, wayN_stable n c.parent (by rw [rise_some hc] at h; exact h)]
theorem way_none {id : Int} (h : at? l id = none) : way l id = [] := wayN_none h 65
theorem way_len (id : Int) : (way l id).length ≤ 65 := wayN_len 65 id
theorem way_some (F : Fit l) {id : Int} {c : Cls} (h : at? l id = some c) (hc : at? l c.id = some c) : way l id = ⟨c, hc⟩ :: way l c.parent := by
  rcases F with rfl | R
  · cases h
  · unfold way
    rw [wayN_some h hc, ← wayN_stable 64 c.parent ?_]
    have := (ring_iff R.good R.root R.le).2 R.all id (by rw [← (at_mem h).2]; exact List.mem_map.2 ⟨c, (at_mem h).1, rfl⟩)
    rw [rise_some h] at this
    rw [this]; exact at_zero R.good
theorem Fit.pos (F : Fit l) {id : Int} {c : Cls} (h : at? l id = some c) : 1 ≤ c.id ∧ c.id ≤ 65535 ∧ 0 ≤ c.parent ∧ c.parent ≤ 65535 := by
  rcases F with rfl | R
  · cases h
  · exact R.good.pos c (at_mem h).1
theorem wf_small {i : Int} (h : 0 ≤ i) (h' : i ≤ 65535) : (Lit.int .i64 i).wf = true := by simp [Lit.wf, IntKind.min, IntKind.max, IntKind.bits, IntKind.signed]; omega

/-- the pointer is a tree's over l, or nil and there is none -/
def TreeV (w : World) (B : Nat) (v : Value) (l : List Cls) : Prop := (v = .pointer none ∧ l = []) ∨ ∃ T, v = .pointer (some ⟨T, 0, none⟩) ∧ TreeAt w B T l ∧ Tp.Tree l
theorem TreeV.fit {w : World} {B : Nat} {v : Value} (t : TreeV w B v l) : Fit l := by
  rcases t with ⟨_, h⟩ | ⟨_, _, _, h⟩
  · exact .inl h
  · exact .inr h
theorem TreeV.below {w w' : World} {B : Nat} {v : Value} (hb : Below B w w') (t : TreeV w B v l) : TreeV w' B v l := by
  rcases t with h | ⟨T, e, h, r⟩
  · exact .inl h
  · exact .inr ⟨T, e, h.below hb, r⟩
theorem TreeV.up {w : World} {B B' : Nat} {v : Value} (hB : B ≤ B') (t : TreeV w B v l) : TreeV w B' v l := by
  rcases t with h | ⟨T, e, h, r⟩
  · exact .inl h
  · exact .inr ⟨T, e, h.up hB, r⟩
theorem TreeV.ptr {w : World} {B : Nat} {v : Value} (t : TreeV w B v l) : ∃ p, v = .pointer p := by
  rcases t with ⟨h, _⟩ | ⟨_, h, _⟩ <;> exact ⟨_, h⟩
theorem vclass_c (v : Value) (id : Int) (hid : (Lit.int .i64 id).wf = true) (w : World) (t : TreeV w w.heap.size v l) : Calls Tryz.prog 63 #[v, .int .i64 id] w (ClassOk (at? l id) w) := by
  rcases t with ⟨rfl, rfl⟩ | ⟨T, rfl, h, _⟩
  · exact nclass id w
  · exact tclass_c T l id hid w h
end Go.Proofs.YtpchhfhmopmagaaGreat.Pa

/- paths.Up: the walk of its iterator. -/
namespace Go.Proofs.YtpchhfhmopmagaaGreat.Pa
open Go.RowKit Go.Shelf Go.Maps Go.Proofs.YtpchhfhmopmagaaGreat.Wd Go.Proofs.YtpchhfhmopmagaaGreat.Li Go.Proofs.YtpchhfhmopmagaaGreat.Mp Go.Proofs.YtpchhfhmopmagaaGreat.Tp Go.Proofs.YtpchhfhmopmagaaGreat.Tr Go.Proofs.YtpchhfhmopmagaaGreat.Cl Go.Proofs.YtpchhfhmopmagaaGreat.So Go.Proofs.YtpchhfhmopmagaaGreat.Sw
attribute [local go_sem] Oper.semAt_some run_store_float

theorem wpListIn_store_whole {F : Fence} {n : Nat} {P : Program} {ops : Array Oper} {rest : List Oper} {o : Oper} {a : Act} {Q : Exit → Act → World → Prop} {w : World} (hgd : o.guard = none) (t : TypeId) (p v : Operand)
    (ho : o.op = .store t p v) (sz : Nat) (hso : ∀ w, (sizeOf t).run P w = .ok sz w) (g : Nat) (old cs : Array Value) (e : TypeId) (hp : a.eval p = .pointer (some ⟨g, 0, none⟩)) (hv : a.eval v = .agg cs) (hb : w.heap[g]? = some (.cells old e (0, 0))) (hsz : old.size = cs.size) (hcs : cs.size = sz)
    (h1 : ∀ u ∈ cs.toList, u.oneCell' = true)
    (h : ∀ w3, w3.heap[g]? = some (.cells cs e (0, 0)) → w.grownBy w3 (some g) → wpListIn F n P ops Q rest (a.put o.dst undef) w3) : wpListIn F n P ops Q (o :: rest) a w := by
  refine wpListIn_plain hgd fun K hK => ?_
  have hrun := run_storeCells_at (P := P) g 0 e cs.toList 0 old w hb (by simp [hsz]) h1
  have hrow : (old.toList.take (0 + 0) ++ cs.toList ++ old.toList.drop (0 + 0 + cs.toList.length)).toArray = cs := by
    have h0 : old.toList.drop (0 + 0 + cs.toList.length) = [] := List.drop_eq_nil_of_le (by simp [hsz])
    rw [h0]; simp
  rw [hrow] at hrun
  unfold Oper.wpIn
  refine ⟨by simp [Oper.about, ho], ?_⟩
  rw [Oper.semAt_plain F _ _ (by rw [ho]; intro c hc'; cases hc')]
  simp [execOp, ho, hp, hv, Instr.storeAt, Instr.sureAddr, storeVar, hso, Value.cells, hcs, hrun, Result.andThen]
  exact hK _ _ (h _ (setRow_heap w g old cs e _ hb) (setRow_grown w g cs))

/-- the types whose blocks no round writes -/
def Kt (t : TypeId) : Prop := t = 84 ∨ t = 39
/-- what a round keeps: what lay below, and every class and every tree's pointer that lies in a block of its own -/
def KpU (n₀ : Nat) (W W' : World) : Prop := Below n₀ W W' ∧ ∀ (k : Nat) (cs : Array Value) (t : TypeId), Kt t → W.heap[k]? = some (.cells cs t (0, 0)) → W'.heap[k]? = some (.cells cs t (0, 0))
theorem KpU.refl (n₀ : Nat) (A : World) : KpU n₀ A A := ⟨Below.refl _ _, fun _ _ _ _ h => h⟩
theorem KpU.trans {n₀ : Nat} {A B C : World} (h : KpU n₀ A B) (k : KpU n₀ B C) : KpU n₀ A C := ⟨h.1.trans k.1, fun i cs t ht hi => k.2 i cs t ht (h.2 i cs t ht hi)⟩
theorem KpU.of_below {n₀ : Nat} {A B : World} (hn : n₀ ≤ A.heap.size) (h : Below A.heap.size A B) : KpU n₀ A B := ⟨h.mono hn, fun i _cs _t _ hi => (h.block i (Array.getElem?_eq_some_iff.1 hi).1).trans hi⟩
theorem KpU.of_grown {n₀ k : Nat} {A B : World} (h : Below n₀ A B) (hg : A.grownBy B (some k)) (hk : ∀ cs t, Kt t → A.heap[k]? ≠ some (.cells cs t (0, 0))) : KpU n₀ A B :=
  ⟨h, fun i cs t ht hi => by
    by_cases e : i = k
    · subst e; exact absurd hi (hk cs t ht)
    · exact (hg.block i (Array.getElem?_eq_some_iff.1 hi).1 (fun e' => e (by injection e'))).trans hi⟩
theorem kpU_b {n₀ : Nat} {w : World} (hB : n₀ ≤ w.heap.size) : ∀ (W : World) (l : Nat) (o o' : Obj), w.heap.size ≤ l → W.heap[l]? = some o → o.isCells = false → o.isWalk = false → KpU n₀ W (W.putObj l o') := fun W l o o' hl ho hc hw =>
  .of_grown (belowK_b hB W l o o' hl ho hc hw) (grownBy_putObj' W l o') (fun cs t _ e => by rw [ho] at e; cases e; cases hc)
theorem grown_of_below {A B : World} (h : Below A.heap.size A B) : A.grownBy B none := ⟨h.os, h.tape, h.output, h.size, fun k hk _ => h.block k hk⟩

def encU (l : List Cls) (x : Ci l) : Array Value := #[.int .i64 x.1.id]

set_option maxRecDepth 20000 in
set_option maxHeartbeats 1000000 in
theorem up1_in (n : Nat) (hn : 1 ≤ n) (k Bi Bt n₀ : Nat) (l : List Cls) (F0 : Fit l) (id : Int) (hid : (Lit.int .i64 id).wf = true) (v : Value) (J Jx : List (Ci l) → World → Prop)
    (hY : ∀ pre x W, J pre W → pre.length < 65 → YieldAt Fence.wide (n - 1) Tryz.prog k (encU l x) W fun e W' =>
      (e = .returned (.bool true) ∧ J (pre ++ [x]) W' ∧ KpU n₀ W W') ∨ (e = .returned (.bool false) ∧ Jx (pre ++ [x]) W'))
    (W : World) (hn₀ : n₀ ≤ W.heap.size) (hJ : AbidesFrom W.heap.size J) (hBi : W.cell? ⟨Bi, 0, none⟩ = some (.int .i64 id)) (hBt : W.heap[Bt]? = some (.cells #[v] 39 (0, 0)))
    (ht : TreeV W n₀ v l) (h0 : J [] W) :
    CallsIn Fence.wide n Tryz.prog 136 #[.func (.yield k) #[] #[], .pointer (some ⟨Bi, 0, none⟩), .pointer (some ⟨Bt, 0, none⟩)] W fun e W' => (∃ v, e = .returned v) ∧
      (J (way l id) W' ∨ (∃ pre, pre <+: way l id ∧ Jx pre W')) := by
  refine callsIn_of_wp Tryz.func136 rfl trivial ?_ rfl
  simp only [Tryz.ntmps136, List.size_toArray, List.length_cons, List.length_nil, Nat.reduceAdd, Nat.reduceSub, Array.replicate_succ, Array.replicate_zero, List.push_toArray, List.append_toArray, List.nil_append, List.cons_append]
  gi_wp2
  gi_loopw [4] (fun i wr => ∃ (pre : List (Ci l)) (at_ : Int), i = .int .i64 at_ ∧ (Lit.int .i64 at_).wf = true ∧ way l id = pre ++ way l at_ ∧ J pre wr ∧ KpU n₀ W wr)
    (fun i _ => (way l (intOf i)).length)
  case atStart => exact ⟨[], id, rfl, hid, rfl, h0, KpU.refl _ _⟩
  case round =>
    obtain ⟨pre, at_, rfl, hwf, hway, hJs, hnx⟩ := hrel
    have hsz : n₀ ≤ wr.heap.size := Nat.le_trans hn₀ hnx.1.size
    have hcon := callsIn_wide (n := n - 1) |>.2 (vclass_c v at_ hwf wr ((ht.below hnx.1).up hsz))
    have hbt := cells_at (hnx.2 _ _ _ (.inr rfl) hBt) 0 _ rfl
    have hbt2 : wr.cell? ⟨Bt, 0, none⟩ = some v := hbt
    unfold ClassOk clsV at hcon
    cases hcl : at? l at_ with
    | none =>
      rw [hcl] at hcon
      dsimp only [Option.getD, Option.isSome, clsZ] at hcon
      have hw0 : way l at_ = [] := way_none hcl
      rw [hw0, List.append_nil] at hway
      have HC := Lib.hid hcon
      have HW := Lib.hid hway
      have HJ := Lib.hid hJs
      clear hcon hway hcl hw0 hbt ht hJs
      gi_wp2_with (first
        | (refine ⟨trivial, ?_⟩; gi_at_call 63; (with_reducible refine (HC.out).mono ?_); rintro e w1 ⟨rfl, hb1⟩; have HB1 := Lib.hid hb1; clear hb1
           have HH0 := Lib.hid (heap_alloc_new w1 (.cells #[.int .i64 0, .int .i64 0, .float .f64 0, .int .i64 0, .int .i64 0, .int .i64 0, .int .i64 0, .int .i64 0, .int .i64 0, .bool false, .bool false] 84)))
        | (refine wpListIn_store_whole (by rfl) 84 _ _ (by rfl) 11 Tryz.sizeOf84 w1.heap.size _ _ 84 (by rfl) (by rfl) HH0.out (by rfl) (by rfl) (by simp [Value.oneCell']) ?_; intro w5 hb5 hg5; have HB5 := Lib.hid hb5; have HG5 := Lib.hid hg5; clear hb5 hg5))
      refine ⟨(fun _ h => by cases h), ?_⟩
      gi_wp2
      refine bodyPost_ret (results_none rfl _ _ _) rfl ?_
      have hB5 : Below wr.heap.size wr w5 := (HB1.out.alloc HB1.out.size _).grown HG5.out (by have := HB1.out.size; simp; omega) (fun q hq => by injection hq with hq; subst hq; exact HB1.out.size)
      refine ⟨⟨_, rfl⟩, .inl ?_⟩
      rw [HW.out]
      exact hJ _ wr w5 none HJ.out (grown_of_below hB5) (fun r e => by cases e)
    | some c =>
      have hcc : at? l c.id = some c := by rw [(at_mem hcl).2]; exact hcl
      rw [hcl] at hcon
      dsimp only [Option.getD, Option.isSome] at hcon
      have hw0 : way l at_ = ⟨c, hcc⟩ :: way l c.parent := way_some F0 hcl hcc
      have hlen : pre.length < 65 := by have h1 := way_len (l := l) id; rw [hway, hw0] at h1; simp at h1; omega
      have hid2 : c.id = at_ := (at_mem hcl).2
      have hpos := F0.pos hcl
      have hwf2 : (Lit.int .i64 c.parent).wf = true := wf_small hpos.2.2.1 hpos.2.2.2
      have HC := Lib.hid hcon
      have HW := Lib.hid hway
      have HW0 := Lib.hid hw0
      have HJ := Lib.hid hJs
      have HL := Lib.hid hlen
      have HI := Lib.hid hid2
      clear hcon hway hcl hw0 hbt ht hJs hlen hid2 hpos
      gi_wp2_with (first
        | (refine ⟨trivial, ?_⟩; gi_at_call 63; (with_reducible refine (HC.out).mono ?_); rintro e w1 ⟨rfl, hb1⟩; have HB1 := Lib.hid hb1; clear hb1
           have HH0 := Lib.hid (heap_alloc_new w1 (.cells #[.int .i64 0, .int .i64 0, .float .f64 0, .int .i64 0, .int .i64 0, .int .i64 0, .int .i64 0, .int .i64 0, .int .i64 0, .bool false, .bool false] 84)))
        | (refine wpListIn_store_whole (by rfl) 84 _ _ (by rfl) 11 Tryz.sizeOf84 w1.heap.size _ _ 84 (by rfl) (by rfl) HH0.out (by rfl) (by rfl) (by simp [Value.oneCell']) ?_; intro w5 hb5 hg5
           have hB5 : Below wr.heap.size wr w5 := (HB1.out.alloc HB1.out.size _).grown hg5 (by have := HB1.out.size; simp; omega) (fun q hq => by injection hq with hq; subst hq; exact HB1.out.size)
           obtain ⟨fn, tmps, assign, body, hy, hR⟩ := hY pre ⟨c, hcc⟩ w5 (hJ _ wr w5 none HJ.out (grown_of_below hB5) (fun r e => by cases e)) HL.out
           dsimp only [encU] at hy
           rw [HI.out] at hy
           have HR := Lib.hid hR
           have HB5 := Lib.hid hb5; have HG5 := Lib.hid hB5; clear hb5 hg5 hB5 hR))
      refine HR.out.mono ?_
      rintro e W3 (⟨rfl, hJ3, hk3⟩ | ⟨rfl, hJx3⟩)
      · have hp3 := cells_at (hk3.2 _ _ _ (.inl rfl) HB5.out) 1 _ rfl
        have hn3 : KpU n₀ W W3 := hnx.trans ((KpU.of_below hsz HG5.out).trans hk3)
        have HN3 := Lib.hid hn3
        have HJ3 := Lib.hid hJ3
        clear hn3 hk3 hJ3
        gi_wp2
        go_roundw
        case rel => exact ⟨pre ++ [⟨c, hcc⟩], c.parent, rfl, hwf2, by rw [HW.out, HW0.out]; simp, HJ3.out, HN3.out⟩
        case measure => rw [show intOf (.int .i64 c.parent) = c.parent from rfl, show intOf (.int .i64 at_) = at_ from rfl, HW0.out]; simp
      · gi_wp2
        refine bodyPost_ret (results_none rfl _ _ _) rfl ?_
        refine ⟨⟨_, rfl⟩, .inr ⟨_, ?_, hJx3⟩⟩
        rw [HW.out, HW0.out]; exact ⟨way l c.parent, by simp⟩

theorem up_stops (n : Nat) (hn : 1 ≤ n) (Bi Bt n₀ : Nat) (l : List Cls) (F0 : Fit l) (id : Int) (hid : (Lit.int .i64 id).wf = true) (v : Value) (w : World) (hn₀ : n₀ ≤ w.heap.size)
    (hBi0 : Bi < w.heap.size) (hBt0 : Bt < w.heap.size) (hBi : w.cell? ⟨Bi, 0, none⟩ = some (.int .i64 id)) (hBt : w.heap[Bt]? = some (.cells #[v] 39 (0, 0))) (ht : TreeV w n₀ v l) :
    SeqStopsK Fence.wide n Tryz.prog 136 #[.pointer (some ⟨Bi, 0, none⟩), .pointer (some ⟨Bt, 0, none⟩)] (encU l) (KpU n₀) (fun ys => ys = way l id) (fun pre => pre <+: way l id) 65 w := fun k J Jx W hW hJ _ hY h0 => by
  refine (up1_in n hn k Bi Bt n₀ l F0 id hid v J Jx hY W (Nat.le_trans hn₀ hW.size) hJ ((hW.cell (p := ⟨Bi, 0, none⟩) hBi0).trans hBi) ((hW.block _ hBt0).trans hBt) (ht.below (hW.mono hn₀)) h0).mono ?_
  rintro e W' ⟨he, hj | ⟨pre, hp, hj⟩⟩
  · exact ⟨he, .inl ⟨_, rfl, hj⟩⟩
  · exact ⟨he, .inr ⟨_, hp, hj⟩⟩

set_option maxHeartbeats 1000000 in
/-- paths.Up(t, id): two boxes; the function value captures them. -/
theorem up_c (p : Option Addr) (id : Int) (w : World) :
    Calls Tryz.prog 62 #[.pointer p, .int .i64 id] w fun e w' => e = .returned (.func (.func 136) #[] #[.pointer (some ⟨w.heap.size + 1, 0, none⟩), .pointer (some ⟨w.heap.size, 0, none⟩)]) ∧
      w' = (w.alloc (.cells #[.pointer p] 39)).alloc (.cells #[.int .i64 id] 3) := by
  go_enter Tryz.func62, Tryz.ntmps62
  go_wp2
  go_ret
  exact ⟨rfl, rfl⟩
end Go.Proofs.YtpchhfhmopmagaaGreat.Pa

/- paths.Under. -/
namespace Go.Proofs.YtpchhfhmopmagaaGreat.Pa
open Go.RowKit Go.Shelf Go.Maps Go.Proofs.YtpchhfhmopmagaaGreat.Wd Go.Proofs.YtpchhfhmopmagaaGreat.Li Go.Proofs.YtpchhfhmopmagaaGreat.Mp Go.Proofs.YtpchhfhmopmagaaGreat.Tp Go.Proofs.YtpchhfhmopmagaaGreat.Tr Go.Proofs.YtpchhfhmopmagaaGreat.Cl Go.Proofs.YtpchhfhmopmagaaGreat.So Go.Proofs.YtpchhfhmopmagaaGreat.Sw
attribute [local go_sem] Oper.semAt_some run_store_float

def wids (l : List Cls) (id : Int) : List Int := (way l id).map (fun x => x.1.id)
def underS (l : List Cls) (id above : Int) : Bool := decide (above ∈ wids l id)

set_option maxRecDepth 20000 in
set_option maxHeartbeats 1000000 in
theorem under_in (n : Nat) (hn : 6 ≤ n) (l : List Cls) (p : Option Addr) (id above : Int) (hid : (Lit.int .i64 id).wf = true) (w : World) (ht : TreeV w w.heap.size (.pointer p) l) :
    CallsIn Fence.wide n Tryz.prog 25 #[.pointer p, .int .i64 id, .int .i64 above] w fun e W' => e = .returned (.bool (underS l id above)) ∧ Below w.heap.size w W' := by
  have h1 : 1 ≤ n := by omega
  refine callsIn_of_wp_marks Tryz.func25 rfl trivial ?_ rfl
  simp only [Tryz.ntmps25, List.size_toArray, List.length_cons, List.length_nil, Nat.reduceAdd, Nat.reduceSub, Array.replicate_succ, Array.replicate_zero, List.push_toArray, List.append_toArray, List.nil_append, List.cons_append]
  gi_wp2_with (refine ⟨trivial, ?_⟩; gi_at_call 62; refine (callsIn_wide.2 (up_c _ _ _)).mono ?_; rintro e w' ⟨rfl, rfl⟩)
  obtain ⟨w4, hw4⟩ : ∃ w4, (((w.alloc (.cells #[.int .i64 above] 3)).alloc (.cells #[.bool false] 4)).alloc (.cells #[.pointer p] 39)).alloc (.cells #[.int .i64 id] 3) = w4 := ⟨_, rfl⟩
  have hs4 : w4.heap.size = w.heap.size + 4 := by rw [← hw4]; simp
  have hB4 : Below w.heap.size w w4 := by rw [← hw4]; exact ((((Below.refl _ w).alloc (Nat.le_refl _) _).alloc (by simp) _).alloc (by simp; omega) _).alloc (by simp; omega) _
  have b5 : Boxed w4 w.heap.size 3 (.int .i64 above) := by rw [← hw4]; exact (((Boxed.new w _ _).alloc _).alloc _).alloc _
  have b6 : Boxed w4 (w.heap.size + 1) 4 (.bool false) := by rw [← hw4]; have := Boxed.new (w.alloc (.cells #[.int .i64 above] 3)) 4 (.bool false); rw [World.size_alloc] at this; exact (this.alloc _).alloc _
  have b7 : Boxed w4 (w.heap.size + 1 + 1) 39 (.pointer p) := by rw [← hw4]; have := Boxed.new ((w.alloc (.cells #[.int .i64 above] 3)).alloc (.cells #[.bool false] 4)) 39 (.pointer p); rw [World.size_alloc, World.size_alloc] at this; exact this.alloc _
  have b8 : Boxed w4 (w.heap.size + 1 + 1 + 1) 3 (.int .i64 id) := by rw [← hw4]; have := Boxed.new (((w.alloc (.cells #[.int .i64 above] 3)).alloc (.cells #[.bool false] 4)).alloc (.cells #[.pointer p] 39)) 3 (.int .i64 id); rw [World.size_alloc, World.size_alloc, World.size_alloc] at this; exact this
  rw [hw4]
  refine wpIn_rangeFunc_ownF (F := Fence.wide) rfl h1 (gf := 136) (lb := #[.pointer (some ⟨w.heap.size + 1 + 1 + 1, 0, none⟩), .pointer (some ⟨w.heap.size + 1 + 1, 0, none⟩)]) rfl trivial (enters_of Tryz.func136 (by kernel_rfl) rfl)
    (up_stops (n - 1) (by omega) (w.heap.size + 1 + 1 + 1) (w.heap.size + 1 + 1) w.heap.size l ht.fit id hid (.pointer p) w4 (by omega) (by omega) (by omega) b8.cell b7 (ht.below hB4)) KpU.trans (kpU_b (by omega)) (Below.refl _ _) (fun _ => rfl)
    (fun pre W => ((∀ y ∈ pre, y.1.id ≠ above) ∧ Boxed W w.heap.size 3 (.int .i64 above) ∧ Boxed W (w.heap.size + 1) 4 (.bool false)) ∧ Below w.heap.size w W)
    (fun c pre W => (c = .ret ∧ (∃ y ∈ pre, y.1.id = above) ∧ Boxed W (w.heap.size + 1) 4 (.bool true)) ∧ Below w.heap.size w W)
    (OwnFrom.and (Own.from (fun s A B row hs hg hr => ⟨hs.1, boxed_own _ _ (fun _ : Unit => _) () A B row hs.2.1 hg hr, boxed_own _ _ (fun _ : Unit => _) () A B row hs.2.2 hg hr⟩) _) (ownFrom_below (Nat.le_refl _) (by omega)))
    (fun c => OwnFrom.and (Own.from (fun s A B row hs hg hr => ⟨hs.1, hs.2.1, boxed_own _ _ (fun _ : Unit => _) () A B row hs.2.2 hg hr⟩) _) (ownFrom_below (Nat.le_refl _) (by omega)))
    ⟨⟨by simp, b5, b6⟩, hB4⟩
    (fun x => { tmps := #[.pointer p, .int .i64 id, .int .i64 above, undef, undef, .pointer (some ⟨w.heap.size, 0, none⟩), .pointer (some ⟨w.heap.size + 1, 0, none⟩), .int .i64 x.1.id, .pointer p, .int .i64 id, .func (.func 136) #[] #[.pointer (some ⟨w.heap.size + 1 + 1 + 1, 0, none⟩), .pointer (some ⟨w.heap.size + 1 + 1, 0, none⟩)], .int .i64 x.1.id, undef, undef, undef], defers := [] }) ?assign ?body ?done ?stop
  case assign =>
    intro k x W K hK
    dsimp only [encU]
    gi_wp2
    exact hK
  case body =>
    rintro k pre x W ⟨⟨hp, hc5, hc6⟩, hB⟩ _
    have hcc5 := hc5.cell
    have hcc6 := hc6.cell
    have hf6 := hc6.frozen
    gi_wp2
    · rename_i hx
      have hx : x.1.id = above := by simpa using hx
      exact ⟨KeepsOthers.setCell _ _ _, ⟨rfl, ⟨x, by simp, hx⟩, hc6.set _⟩, hB.setCell (p := ⟨w.heap.size + 1, 0, none⟩) (by simp) _⟩
    · rename_i hx
      have hx : x.1.id ≠ above := by simpa using hx
      exact ⟨KeepsOthers.refl _, KpU.refl _ _, ⟨fun y hy => (List.mem_append.1 hy).elim (hp y) (fun e => by simp at e; subst e; exact hx), hc5, hc6⟩, hB⟩
  case done =>
    rintro D ys W hD rfl ⟨⟨hne, _, hc6⟩, hB⟩ hK
    have hcc6 := hc6.cell
    have hf6 := hc6.frozen
    have hun : underS l id above = false := by unfold underS wids; rw [decide_eq_false]; intro h; obtain ⟨y, hy, e⟩ := List.mem_map.1 h; exact hne y hy e
    have HUN := Lib.hid hun
    clear hun
    clear hne
    gi_wp2
    have hK' := (KeepsOthers.setCell W ⟨w.heap.size + 1, 0, none⟩ (.bool false)).same D _ hK rfl
    refine ⟨by simp, .inl ⟨_, _, rfl, run_takeDeferred hK', ?_⟩⟩
    have hc5 := Go.cell_kept (hc6.set (.bool false)).cell (grownBy_putObj' _ D (.deferred none)) (fun r e => by cases e; exact ⟨_, hK', rfl⟩)
    refine ⟨.bool false, ?_, by rw [HUN.out], (hB.setCell (p := ⟨w.heap.size + 1, 0, none⟩) (by simp) _).trans (belowK_b (w := w) (Nat.le_refl _) _ D _ _ (by omega) hK' rfl rfl)⟩
    simp [results, Tryz.f25, go_sem, hc5]
  case stop =>
    rintro D c pre W hD hpre ⟨⟨rfl, hin, hc6⟩, hB⟩ hK
    have hun : underS l id above = true := by unfold underS wids; rw [decide_eq_true]; obtain ⟨y, hy, e⟩ := hin; exact List.mem_map.2 ⟨y, hpre.subset hy, e⟩
    have HUN := Lib.hid hun
    clear hun
    clear hin
    gi_wp2
    refine ⟨by simp, .inl ⟨_, _, rfl, run_takeDeferred hK, ?_⟩⟩
    have hc5 := Go.cell_kept hc6.cell (grownBy_putObj' _ D (.deferred none)) (fun r e => by cases e; exact ⟨_, hK, rfl⟩)
    refine ⟨.bool true, ?_, by rw [HUN.out], hB.trans (belowK_b (w := w) (Nat.le_refl _) W D _ _ (by omega) hK rfl rfl)⟩
    simp [results, Tryz.f25, go_sem, hc5]

theorem under_c (l : List Cls) (p : Option Addr) (id above : Int) (hid : (Lit.int .i64 id).wf = true) (w : World) (ht : TreeV w w.heap.size (.pointer p) l) :
    Calls Tryz.prog 25 #[.pointer p, .int .i64 id, .int .i64 above] w fun e W' => e = .returned (.bool (underS l id above)) ∧ Below w.heap.size w W' :=
  callsIn_wide.1 (under_in 9 (by omega) l p id above hid w ht)
end Go.Proofs.YtpchhfhmopmagaaGreat.Pa

/- paths.Meet. -/
namespace Go.Proofs.YtpchhfhmopmagaaGreat.Pa
open Go.RowKit Go.Shelf Go.Maps Go.Proofs.YtpchhfhmopmagaaGreat.Wd Go.Proofs.YtpchhfhmopmagaaGreat.Li Go.Proofs.YtpchhfhmopmagaaGreat.Mp Go.Proofs.YtpchhfhmopmagaaGreat.Tp Go.Proofs.YtpchhfhmopmagaaGreat.Tr Go.Proofs.YtpchhfhmopmagaaGreat.Cl Go.Proofs.YtpchhfhmopmagaaGreat.So Go.Proofs.YtpchhfhmopmagaaGreat.Sw
attribute [local go_sem] Oper.semAt_some run_store_float

theorem keeps_below {A B : World} (h : Below A.heap.size A B) : KeepsOthers A B := KeepsOthers.of_grownBy (grown_of_below h) (fun j o ej _ => by cases ej)

end Go.Proofs.YtpchhfhmopmagaaGreat.Pa

/- paths.Apart. -/
namespace Go.Proofs.YtpchhfhmopmagaaGreat.Pa
open Go.RowKit Go.Shelf Go.Maps Go.Proofs.YtpchhfhmopmagaaGreat.Wd Go.Proofs.YtpchhfhmopmagaaGreat.Li Go.Proofs.YtpchhfhmopmagaaGreat.Mp Go.Proofs.YtpchhfhmopmagaaGreat.Tp Go.Proofs.YtpchhfhmopmagaaGreat.Tr Go.Proofs.YtpchhfhmopmagaaGreat.Cl Go.Proofs.YtpchhfhmopmagaaGreat.So Go.Proofs.YtpchhfhmopmagaaGreat.Sw
attribute [local go_sem] Oper.semAt_some run_store_float

def apartB (l : List Cls) (b : Int) (x : Ci l) : Bool := x.1.isolated && !underS l b x.1.id
def apartS (l : List Cls) (a b : Int) : Bool := (way l a).any (apartB l b)
theorem apart_none {l : List Cls} {a b : Int} (h : ∀ y ∈ way l a, apartB l b y = false) : apartS l a b = false := by
  unfold apartS; rw [List.any_eq_false]; intro y hy; simp [h y hy]
theorem apart_hit {l : List Cls} {a b : Int} {pre : List (Ci l)} (hp : pre <+: way l a) (h : ∃ y ∈ pre, apartB l b y = true) : apartS l a b = true := by
  unfold apartS; rw [List.any_eq_true]; obtain ⟨y, hy, e⟩ := h; exact ⟨y, hp.subset hy, e⟩
theorem zero_cls {l : List Cls} (F : Fit l) (x : Ci l) : (Lit.int .i64 x.1.id).wf = true ∧ (Lit.int .i64 x.1.parent).wf = true := by
  have := F.pos x.2
  exact ⟨wf_small (by omega) this.2.1, wf_small this.2.2.1 this.2.2.2⟩

set_option maxRecDepth 20000 in
set_option maxHeartbeats 1000000 in
theorem apart_in (n : Nat) (hn : 6 ≤ n) (l : List Cls) (p : Option Addr) (a b : Int) (hida : (Lit.int .i64 a).wf = true) (hidb : (Lit.int .i64 b).wf = true) (w : World) (ht : TreeV w w.heap.size (.pointer p) l) :
    CallsIn Fence.wide n Tryz.prog 260 #[.pointer p, .int .i64 a, .int .i64 b] w fun e W' => e = .returned (.bool (apartS l a b)) ∧ Below w.heap.size w W' := by
  have h1 : 1 ≤ n := by omega
  refine callsIn_of_wp_marks Tryz.func260 rfl trivial ?_ rfl
  simp only [Tryz.ntmps260, List.size_toArray, List.length_cons, List.length_nil, Nat.reduceAdd, Nat.reduceSub, Array.replicate_succ, Array.replicate_zero, List.push_toArray, List.append_toArray, List.nil_append, List.cons_append]
  gi_wp2_with (refine ⟨trivial, ?_⟩; gi_at_call 62; refine (callsIn_wide.2 (up_c _ _ _)).mono ?_; rintro e w' ⟨rfl, rfl⟩)
  obtain ⟨w1, hw1⟩ : ∃ w1, w.alloc (.cells #[.pointer p] 39) = w1 := ⟨_, rfl⟩
  obtain ⟨w2, hw2⟩ : ∃ w2, w1.alloc (.cells #[.int .i64 b] 3) = w2 := ⟨_, rfl⟩
  obtain ⟨w3, hw3⟩ : ∃ w3, w2.alloc (.cells #[.bool false] 4) = w3 := ⟨_, rfl⟩
  obtain ⟨w4, hw4⟩ : ∃ w4, w3.alloc (.cells #[.pointer p] 39) = w4 := ⟨_, rfl⟩
  obtain ⟨w5, hw5⟩ : ∃ w5, w4.alloc (.cells #[.int .i64 a] 3) = w5 := ⟨_, rfl⟩
  have z1 : w1.heap.size = w.heap.size + 1 := by rw [← hw1]; simp
  have z2 : w2.heap.size = w.heap.size + 1 + 1 := by rw [← hw2, World.size_alloc, z1]
  have z3 : w3.heap.size = w.heap.size + 1 + 1 + 1 := by rw [← hw3, World.size_alloc, z2]
  have z4 : w4.heap.size = w.heap.size + 1 + 1 + 1 + 1 := by rw [← hw4, World.size_alloc, z3]
  have z5 : w5.heap.size = w.heap.size + 1 + 1 + 1 + 1 + 1 := by rw [← hw5, World.size_alloc, z4]
  have hB5 : Below w.heap.size w w5 := by rw [← hw5, ← hw4, ← hw3, ← hw2, ← hw1]; exact (((((Below.refl _ w).alloc (Nat.le_refl _) _).alloc (by simp) _).alloc (by simp; omega) _).alloc (by simp; omega) _).alloc (by simp; omega) _
  have b3 : Boxed w5 w.heap.size 39 (.pointer p) := by rw [← hw5, ← hw4, ← hw3, ← hw2, ← hw1]; exact ((((Boxed.new w _ _).alloc _).alloc _).alloc _).alloc _
  have b5 : Boxed w5 (w.heap.size + 1) 3 (.int .i64 b) := by rw [← z1, ← hw5, ← hw4, ← hw3, ← hw2]; exact (((Boxed.new w1 _ _).alloc _).alloc _).alloc _
  have b6 : Boxed w5 (w.heap.size + 1 + 1) 4 (.bool false) := by rw [← z2, ← hw5, ← hw4, ← hw3]; exact ((Boxed.new w2 _ _).alloc _).alloc _
  have b7 : Boxed w5 (w.heap.size + 1 + 1 + 1) 39 (.pointer p) := by rw [← z3, ← hw5, ← hw4]; exact (Boxed.new w3 _ _).alloc _
  have b8 : Boxed w5 (w.heap.size + 1 + 1 + 1 + 1) 3 (.int .i64 a) := by rw [← z4, ← hw5]; exact Boxed.new w4 _ _
  rw [hw1, hw2, hw3, hw4, hw5]
  clear hw1 hw2 hw3 hw4 hw5
  refine wpIn_rangeFunc_ownF (F := Fence.wide) rfl h1 (gf := 136) (lb := #[.pointer (some ⟨w.heap.size + 1 + 1 + 1 + 1, 0, none⟩), .pointer (some ⟨w.heap.size + 1 + 1 + 1, 0, none⟩)]) rfl trivial (enters_of Tryz.func136 (by kernel_rfl) rfl)
    (up_stops (n - 1) (by omega) (w.heap.size + 1 + 1 + 1 + 1) (w.heap.size + 1 + 1 + 1) w.heap.size l ht.fit a hida (.pointer p) w5 (by omega) (by omega) (by omega) b8.cell b7 (ht.below hB5)) KpU.trans (kpU_b (by omega)) (Below.refl _ _) (fun _ => rfl)
    (fun pre W => ((∀ y ∈ pre, apartB l b y = false) ∧ Boxed W w.heap.size 39 (.pointer p) ∧ Boxed W (w.heap.size + 1) 3 (.int .i64 b) ∧ Boxed W (w.heap.size + 1 + 1) 4 (.bool false)) ∧ Below w.heap.size w W)
    (fun c pre W => (c = .ret ∧ (∃ y ∈ pre, apartB l b y = true) ∧ Boxed W (w.heap.size + 1 + 1) 4 (.bool true)) ∧ Below w.heap.size w W)
    (OwnFrom.and (Own.from (fun s A B row hs hg hr => ⟨hs.1, boxed_own _ _ (fun _ : Unit => _) () A B row hs.2.1 hg hr, boxed_own _ _ (fun _ : Unit => _) () A B row hs.2.2.1 hg hr, boxed_own _ _ (fun _ : Unit => _) () A B row hs.2.2.2 hg hr⟩) _) (ownFrom_below (Nat.le_refl _) (by omega)))
    (fun c => OwnFrom.and (Own.from (fun s A B row hs hg hr => ⟨hs.1, hs.2.1, boxed_own _ _ (fun _ : Unit => _) () A B row hs.2.2 hg hr⟩) _) (ownFrom_below (Nat.le_refl _) (by omega)))
    ⟨⟨by simp, b3, b5, b6⟩, hB5⟩
    (fun x => { tmps := #[.pointer p, .int .i64 a, .int .i64 b, .pointer (some ⟨w.heap.size, 0, none⟩), undef, .pointer (some ⟨w.heap.size + 1, 0, none⟩), .pointer (some ⟨w.heap.size + 1 + 1, 0, none⟩), .int .i64 x.1.id, undef, undef, .pointer p, .int .i64 a, .func (.func 136) #[] #[.pointer (some ⟨w.heap.size + 1 + 1 + 1 + 1, 0, none⟩), .pointer (some ⟨w.heap.size + 1 + 1 + 1, 0, none⟩)], .int .i64 x.1.id, undef, undef, undef, undef, undef, undef, undef, undef, undef, undef, undef, undef, undef, undef, undef], defers := [] }) ?assign ?body ?done ?stop
  case assign =>
    intro k x W K hK
    dsimp only [encU]
    gi_wp2
    exact hK
  case body =>
    rintro k pre x W ⟨⟨hp, hc3, hc5, hc6⟩, hB⟩ _
    have hcc3 := hc3.cell
    have hcc5 := hc5.cell
    have hcl := vclass_c (.pointer p) x.1.id (zero_cls ht.fit x).1 W ((ht.below hB).up hB.size)
    rw [x.2] at hcl
    unfold ClassOk clsV at hcl
    dsimp only [Option.getD, Option.isSome] at hcl
    have HC := Lib.hid hcl
    have HP := Lib.hid hp
    have hd : 1 ≤ n - 1 - 1 := by omega
    obtain ⟨q, hq⟩ : ∃ q, q = x.1.isolated := ⟨_, rfl⟩
    have HQ := Lib.hid hq
    rw [← hq] at HC
    clear hp hcl hq
    cases q with
    | false =>
      gi_wp2_with (first
        | (refine ⟨trivial, ?_⟩; gi_at_call 63; (with_reducible refine (CallsIn.inRound k (callsIn_wide.2 HC.out)).mono ?_); rintro e W1 ⟨rfl, hb1⟩; have HB1 := Lib.hid hb1; clear hb1
           have HH0 := Lib.hid (heap_alloc_new W1 (.cells #[.int .i64 0, .int .i64 0, .float .f64 0, .int .i64 0, .int .i64 0, .int .i64 0, .int .i64 0, .int .i64 0, .int .i64 0, .bool false, .bool false] 84)))
        | (refine wpListIn_store_whole (by rfl) 84 _ _ (by rfl) 11 Tryz.sizeOf84 W1.heap.size _ _ 84 (by rfl) (by rfl) HH0.out (by rfl) (by rfl) (by simp [Value.oneCell']) ?_; intro W5 hb5 hg5
           have r10 := cells_at hb5 10 _ rfl
           have HB5 := Lib.hid (show Below W.heap.size W W5 from (HB1.out.alloc HB1.out.size _).grown hg5 (by have := HB1.out.size; simp; omega) (fun q hq => by injection hq with hq; subst hq; exact HB1.out.size))
           clear hb5 hg5)
        )
      refine ⟨trivial, ?_⟩
      gi_wp2
      have hg := grown_of_below HB5.out
      exact ⟨keeps_below HB5.out, KpU.of_below hB.size HB5.out, ⟨fun y hy => (List.mem_append.1 hy).elim (HP.out y) (fun e => by simp at e; subst e; unfold apartB; rw [← HQ.out]; rfl), hc3.kept hg (by simp), hc5.kept hg (by simp), hc6.kept hg (by simp)⟩, hB.trans (HB5.out.mono hB.size)⟩
    | true =>
      obtain ⟨u, hu⟩ : ∃ u, u = underS l b x.1.id := ⟨_, rfl⟩
      have HUU := Lib.hid hu
      clear hu
      cases u with
      | true =>
        gi_wp2_with (first
        | (refine ⟨trivial, ?_⟩; gi_at_call 63; (with_reducible refine (CallsIn.inRound k (callsIn_wide.2 HC.out)).mono ?_); rintro e W1 ⟨rfl, hb1⟩; have HB1 := Lib.hid hb1; clear hb1
           have HH0 := Lib.hid (heap_alloc_new W1 (.cells #[.int .i64 0, .int .i64 0, .float .f64 0, .int .i64 0, .int .i64 0, .int .i64 0, .int .i64 0, .int .i64 0, .int .i64 0, .bool false, .bool false] 84)))
        | (refine wpListIn_store_whole (by rfl) 84 _ _ (by rfl) 11 Tryz.sizeOf84 W1.heap.size _ _ 84 (by rfl) (by rfl) HH0.out (by rfl) (by rfl) (by simp [Value.oneCell']) ?_; intro W5 hb5 hg5
           have r10 := cells_at hb5 10 _ rfl
           have HB5 := Lib.hid (show Below W.heap.size W W5 from (HB1.out.alloc HB1.out.size _).grown hg5 (by have := HB1.out.size; simp; omega) (fun q hq => by injection hq with hq; subst hq; exact HB1.out.size))
           have hcu3 := (hc3.kept (grown_of_below HB5.out) (by simp)).cell; have hcu5 := (hc5.kept (grown_of_below HB5.out) (by simp)).cell; have hU := under_c l p b x.1.id hidb W5 ((ht.below (hB.trans (HB5.out.mono hB.size))).up (Nat.le_trans hB.size HB5.out.size)); rw [← HUU.out] at hU; have HU := Lib.hid hU; clear hU
           clear hb5 hg5)
        | (refine ⟨trivial, ?_⟩; gi_at_call 25; refine (CallsIn.inRound k (callsIn_wide.2 HU.out)).mono ?_; rintro e W6 ⟨rfl, hb6⟩; have HB6 := Lib.hid (HB5.out.trans (hb6.mono HB5.out.size)); clear hb6))
        have hg := grown_of_below HB6.out
        exact ⟨keeps_below HB6.out, KpU.of_below hB.size HB6.out, ⟨fun y hy => (List.mem_append.1 hy).elim (HP.out y) (fun e => by simp at e; subst e; unfold apartB; rw [← HQ.out, ← HUU.out]; rfl), hc3.kept hg (by simp), hc5.kept hg (by simp), hc6.kept hg (by simp)⟩, hB.trans (HB6.out.mono hB.size)⟩
      | false =>
        gi_wp2_with (first
        | (refine ⟨trivial, ?_⟩; gi_at_call 63; (with_reducible refine (CallsIn.inRound k (callsIn_wide.2 HC.out)).mono ?_); rintro e W1 ⟨rfl, hb1⟩; have HB1 := Lib.hid hb1; clear hb1
           have HH0 := Lib.hid (heap_alloc_new W1 (.cells #[.int .i64 0, .int .i64 0, .float .f64 0, .int .i64 0, .int .i64 0, .int .i64 0, .int .i64 0, .int .i64 0, .int .i64 0, .bool false, .bool false] 84)))
        | (refine wpListIn_store_whole (by rfl) 84 _ _ (by rfl) 11 Tryz.sizeOf84 W1.heap.size _ _ 84 (by rfl) (by rfl) HH0.out (by rfl) (by rfl) (by simp [Value.oneCell']) ?_; intro W5 hb5 hg5
           have r10 := cells_at hb5 10 _ rfl
           have HB5 := Lib.hid (show Below W.heap.size W W5 from (HB1.out.alloc HB1.out.size _).grown hg5 (by have := HB1.out.size; simp; omega) (fun q hq => by injection hq with hq; subst hq; exact HB1.out.size))
           have hcu3 := (hc3.kept (grown_of_below HB5.out) (by simp)).cell; have hcu5 := (hc5.kept (grown_of_below HB5.out) (by simp)).cell; have hU := under_c l p b x.1.id hidb W5 ((ht.below (hB.trans (HB5.out.mono hB.size))).up (Nat.le_trans hB.size HB5.out.size)); rw [← HUU.out] at hU; have HU := Lib.hid hU; clear hU
           clear hb5 hg5)
        | (refine ⟨trivial, ?_⟩; gi_at_call 25; refine (CallsIn.inRound k (callsIn_wide.2 HU.out)).mono ?_; rintro e W6 ⟨rfl, hb6⟩; have HB6 := Lib.hid (HB5.out.trans (hb6.mono HB5.out.size)); have hc66 := hc6.kept (grown_of_below HB6.out) (by simp); have hcc6 := hc66.cell; have hf6 := hc66.frozen; clear hb6))
        exact ⟨(keeps_below HB6.out).trans (KeepsOthers.setCell _ _ _), ⟨rfl, ⟨x, by simp, by unfold apartB; rw [← HQ.out, ← HUU.out]; rfl⟩, hc66.set _⟩, (hB.trans (HB6.out.mono hB.size)).setCell (p := ⟨w.heap.size + 1 + 1, 0, none⟩) (by simp; omega) _⟩
  case done =>
    rintro D ys W hD rfl ⟨⟨hne, _, _, hc6⟩, hB⟩ hK
    have hcc6 := hc6.cell
    have hf6 := hc6.frozen
    have HUN := Lib.hid (apart_none hne)
    clear hne
    gi_wp2
    have hK' := (KeepsOthers.setCell W ⟨w.heap.size + 1 + 1, 0, none⟩ (.bool false)).same D _ hK rfl
    refine ⟨by simp, .inl ⟨_, _, rfl, run_takeDeferred hK', ?_⟩⟩
    have hc5 := Go.cell_kept (hc6.set (.bool false)).cell (grownBy_putObj' _ D (.deferred none)) (fun r e => by cases e; exact ⟨_, hK', rfl⟩)
    refine ⟨.bool false, ?_, by rw [HUN.out], (hB.setCell (p := ⟨w.heap.size + 1 + 1, 0, none⟩) (by simp; omega) _).trans (belowK_b (w := w) (Nat.le_refl _) _ D _ _ (by omega) hK' rfl rfl)⟩
    simp [results, Tryz.f260, go_sem, hc5]
  case stop =>
    rintro D c pre W hD hpre ⟨⟨rfl, hin, hc6⟩, hB⟩ hK
    have HUN := Lib.hid (apart_hit hpre hin)
    clear hin hpre
    gi_wp2
    refine ⟨by simp, .inl ⟨_, _, rfl, run_takeDeferred hK, ?_⟩⟩
    have hc5 := Go.cell_kept hc6.cell (grownBy_putObj' _ D (.deferred none)) (fun r e => by cases e; exact ⟨_, hK, rfl⟩)
    refine ⟨.bool true, ?_, by rw [HUN.out], hB.trans (belowK_b (w := w) (Nat.le_refl _) W D _ _ (by omega) hK rfl rfl)⟩
    simp [results, Tryz.f260, go_sem, hc5]

theorem apart_c (l : List Cls) (p : Option Addr) (a b : Int) (hida : (Lit.int .i64 a).wf = true) (hidb : (Lit.int .i64 b).wf = true) (w : World) (ht : TreeV w w.heap.size (.pointer p) l) :
    Calls Tryz.prog 260 #[.pointer p, .int .i64 a, .int .i64 b] w fun e W' => e = .returned (.bool (apartS l a b)) ∧ Below w.heap.size w W' :=
  callsIn_wide.1 (apart_in 9 (by omega) l p a b hida hidb w ht)
end Go.Proofs.YtpchhfhmopmagaaGreat.Pa

/- paths.Below. -/
namespace Go.Proofs.YtpchhfhmopmagaaGreat.Pa
open Go.RowKit Go.Maps Go.Proofs.YtpchhfhmopmagaaGreat.Wd Go.Proofs.YtpchhfhmopmagaaGreat.Li Go.Proofs.YtpchhfhmopmagaaGreat.Mp Go.Proofs.YtpchhfhmopmagaaGreat.Tp Go.Proofs.YtpchhfhmopmagaaGreat.Tr Go.Proofs.YtpchhfhmopmagaaGreat.Cl Go.Proofs.YtpchhfhmopmagaaGreat.So Go.Proofs.YtpchhfhmopmagaaGreat.Sw
attribute [local go_sem] run_store_float

def belowP (l : List Cls) (id : Int) (k : Nat) : List Int := ((leavesS l).take k).filter (fun i => underS l i id)
def belowS (l : List Cls) (id : Int) : List Int := (leavesS l).filter (fun i => underS l i id)
theorem belowP_all (l : List Cls) (id : Int) : belowP l id (leavesS l).length = belowS l id := by unfold belowP belowS; rw [List.take_length]
theorem belowP_in {l : List Cls} {id i : Int} {k : Nat} (h : (leavesS l)[k]? = some i) (hu : underS l i id = true) : belowP l id (k + 1) = belowP l id k ++ [i] := by
  unfold belowP; rw [List.take_add_one, h, List.filter_append]; simp [hu]
theorem belowP_out {l : List Cls} {id i : Int} {k : Nat} (h : (leavesS l)[k]? = some i) (hu : underS l i id = false) : belowP l id (k + 1) = belowP l id k := by
  unfold belowP; rw [List.take_add_one, h, List.filter_append]; simp [hu]
theorem belowP_len (l : List Cls) (id : Int) (k : Nat) : (belowP l id k).length ≤ k := Nat.le_trans (List.length_filter_le _ _) (List.length_take_le _ _)
theorem leaf_mem {l : List Cls} {i : Int} (h : i ∈ leavesS l) : i ∈ ids l := (sort_ids i).1 (List.mem_filter.1 h).1
theorem leaves_len (l : List Cls) : (leavesS l).length ≤ l.length := Nat.le_trans (List.length_filter_le _ _) (by rw [ids_len]; exact Nat.le_refl _)
theorem Fit.le {l : List Cls} (F : Fit l) : l.length ≤ 64 := by
  rcases F with rfl | R
  · simp
  · exact R.le
theorem Fit.wf {l : List Cls} (F : Fit l) {i : Int} (h : i ∈ ids l) : (Lit.int .i64 i).wf = true := by
  obtain ⟨c, hc⟩ := at_of_mem h
  have := F.pos hc
  rw [(at_mem hc).2] at this
  exact wf_small (by omega) this.2.1
theorem vleaves_c {l : List Cls} (p : Option Addr) (w : World) (t : TreeV w w.heap.size (.pointer p) l) : Calls Tryz.prog 20 #[.pointer p] w (ListOk (leavesS l) w) := by
  rcases t with ⟨e, rfl⟩ | ⟨T, e, h, R⟩
  · cases e
    exact (nleaves w).mono fun e w' ⟨h1, h2⟩ => ⟨none, 0, h1, Sl.nil, h2 ▸ Below.refl _ _⟩
  · cases e
    exact tleaves_c T l R w h

set_option maxRecDepth 20000 in
set_option maxHeartbeats 2000000 in
theorem below_c (l : List Cls) (p : Option Addr) (id : Int) (_hid : (Lit.int .i64 id).wf = true) (w : World) (ht : TreeV w w.heap.size (.pointer p) l) :
    Calls Tryz.prog 84 #[.pointer p, .int .i64 id] w (ListOk (belowS l id) w) := by
  have hlv := Lib.hid (vleaves_c p w ht)
  have hF := Lib.hid ht.fit
  have hll := Lib.hid (Nat.le_trans (leaves_len l) ht.fit.le)
  have HT := Lib.hid ht
  clear ht
  unfold ListOk at hlv
  obtain ⟨zs, hz⟩ : ∃ zs, zs = leavesS l := ⟨_, rfl⟩
  have HZ := Lib.hid hz
  rw [← hz] at hlv hll
  clear hz
  go_enter Tryz.func84, Tryz.ntmps84
  go_wp2_with (go_at_call 20; (with_reducible refine (hlv.out).mono ?_); rintro e w1 ⟨A1, c1, rfl, hs1, hb1⟩; have HS1 := Lib.hid hs1; have HB1 := Lib.hid hb1; clear hs1 hb1)
  have hws := HB1.out.size
  go_loopg [5, 11] zs.length (fun kx s5 s11 wr => ∃ (k : Nat) (B9 : Option Addr) (c9 : Nat), s11 = .int .i64 k ∧ s5 = .slice B9 (belowP l id k).length c9 ∧ k ≤ zs.length ∧ zs.length - k ≤ kx ∧ Hid (wr.ownsRow w1.heap.size 3 1 s5 (belowP l id k).length (St.I (belowP l id k))) ∧ Hid (Below w1.heap.size w1 wr))
  case atStart => exact ⟨0, none, 0, rfl, rfl, by omega, by omega, Lib.hid (World.ownsRow_nil ..), Lib.hid (Below.refl _ _)⟩
  case round =>
    obtain ⟨k, B9, c9, rfl, rfl, hk, hkx, HO, HW⟩ := hrel
    have hwz := HW.out.size
    have hl2 := hll.out
    by_cases hlt : k < zs.length
    · have hltz : (k : Int) < (zs.length : Int) := by omega
      obtain ⟨a, u, rfl, hab, hu, hc⟩ := (HS1.out.below HW.out).cell1 (k := k) hlt
      unfold St.I at hu
      simp only [List.getElem?_map] at hu
      obtain ⟨y, hy0, rfl⟩ := Option.map_eq_some_iff.1 hu
      rw [HZ.out] at hy0
      have hwf := hF.out.wf (leaf_mem (List.mem_of_getElem? hy0))
      have hol := belowP_len l id k
      have hun := under_c l p y id hwf wr ((HT.out.below (HB1.out.trans (HW.out.mono hws))).up (by omega))
      obtain ⟨q, hq⟩ : ∃ q, q = underS l y id := ⟨_, rfl⟩
      rw [← hq] at hun
      have HUN := Lib.hid hun
      have HY := Lib.hid hy0
      have HQ := Lib.hid hq
      clear hun hu hy0 hq
      cases q with
      | true =>
        have HTK := Lib.hid (belowP_in HY.out HQ.out.symm)
        generalize belowP l id k = os at *
        go_upto_region 6 with (go_at_call 25; (with_reducible refine (HUN.out).mono ?_); rintro e w2 ⟨rfl, hb2⟩; have HB2 := Lib.hid hb2; clear hb2)
        have hw2 := HB2.out.size
        have HO2 := Lib.hid (own_same (w' := w2) HO.out (fun q hq => HB2.out.block q (HO.out.lt q hq).2))
        have HW2 := Lib.hid (HW.out.trans (HB2.out.mono hwz))
        clear hc
        go_wp2_with ((at_builtin; go_must (refine wpList_push_at (by rfl) _ _ 38 (by rfl) Tryz.underlying38 w1.heap.size y w2 _ os (by rfl) HO2.out (by rfl) (by omega) (by omega) ?_)); intro g cap7 w7 hown7 hg7 hl7; have HO7 := Lib.hid hown7; have HB7 := Lib.hid (push_below HW2.out (Nat.le_refl _) (by omega) HO2.out hg7); clear hown7 hg7 hl7)
        go_roundg (zs.length - (k + 1))
        case measure => omega
        case rel => exact ⟨k + 1, some ⟨g, 0, none⟩, cap7, by go_num, by rw [HTK.out]; simp, by omega, by omega, Lib.hid (by rw [HTK.out]; have := HO7.out; simpa [Sv.val] using this), HB7⟩
      | false =>
        have HTK := Lib.hid (belowP_out HY.out HQ.out.symm)
        go_wp2_with (go_at_call 25; (with_reducible refine (HUN.out).mono ?_); rintro e w2 ⟨rfl, hb2⟩; have HB2 := Lib.hid hb2; clear hb2)
        go_roundg (zs.length - (k + 1))
        case measure => omega
        case rel => exact ⟨k + 1, B9, c9, by go_num, by rw [HTK.out], by omega, by omega, Lib.hid (by rw [HTK.out]; exact own_same HO.out (fun q hq => HB2.out.block q (HO.out.lt q hq).2)), Lib.hid (HW.out.trans (HB2.out.mono hwz))⟩
    · have hltz : ¬ (k : Int) < (zs.length : Int) := by omega
      obtain rfl : k = zs.length := by omega
      have HTK : Hid (belowP l id zs.length = belowS l id) := Lib.hid (by rw [HZ.out]; exact belowP_all l id)
      rw [HTK.out] at HO ⊢
      go_wp2
      go_ret
      exact ⟨B9, c9, rfl, Sl.of_own HO.out, HB1.out.trans (HW.out.mono hws)⟩
end Go.Proofs.YtpchhfhmopmagaaGreat.Pa

/- paths.Lenders. -/
namespace Go.Proofs.YtpchhfhmopmagaaGreat.Pa
open Go.RowKit Go.Shelf Go.Maps Go.Proofs.YtpchhfhmopmagaaGreat.Wd Go.Proofs.YtpchhfhmopmagaaGreat.Li Go.Proofs.YtpchhfhmopmagaaGreat.Mp Go.Proofs.YtpchhfhmopmagaaGreat.Tp Go.Proofs.YtpchhfhmopmagaaGreat.Tr Go.Proofs.YtpchhfhmopmagaaGreat.Cl Go.Proofs.YtpchhfhmopmagaaGreat.So Go.Proofs.YtpchhfhmopmagaaGreat.Sw
attribute [local go_sem] Oper.semAt_some run_store_float

def brw (x : Cls) : Bool := !x.bounded && !x.isolated
def goes {l : List Cls} (x : Ci l) : Bool := brw x.1 && !(x.1.parent == 0)
def pars {l : List Cls} (zs : List (Ci l)) : List Int := zs.map (fun y => y.1.parent)
def lendS (l : List Cls) (id : Int) : List Int := pars ((way l id).takeWhile goes)
theorem lend_all {l : List Cls} {id : Int} (h : ∀ y ∈ way l id, goes y = true) : lendS l id = pars (way l id) := by
  unfold lendS
  have : ∀ zs : List (Ci l), (∀ y ∈ zs, goes y = true) → zs.takeWhile goes = zs := fun zs => by
    induction zs with
    | nil => intro _; rfl
    | cons z zs ih => intro h; rw [List.takeWhile_cons, if_pos (h z (by simp)), ih (fun y hy => h y (by simp [hy]))]
  rw [this _ h]
theorem lend_hit {l : List Cls} {id : Int} {pre : List (Ci l)} {x : Ci l} (hp : pre ++ [x] <+: way l id) (h : ∀ y ∈ pre, goes y = true) (hx : goes x = false) : lendS l id = pars pre := by
  unfold lendS
  obtain ⟨t, ht⟩ := hp
  rw [← ht]
  have : ∀ zs : List (Ci l), (∀ y ∈ zs, goes y = true) → (zs ++ [x] ++ t).takeWhile goes = zs := fun zs => by
    induction zs with
    | nil => intro _; simp [hx]
    | cons z zs ih => intro h; rw [List.cons_append, List.cons_append, List.takeWhile_cons, if_pos (h z (by simp)), ih (fun y hy => h y (by simp [hy]))]
  rw [this _ h]
theorem KpU.appended {n₀ B : Nat} {W w8 : World} {t e : TypeId} {size k : Nat} {v v' : Value} {xs : List Value} {tmp : Obj} (hb : Boxed W B t v) (ht : ¬ Kt t) (he : ¬ Kt e) (hrow : W.ownsRow n₀ e size v k xs) (hg : (W.alloc tmp).grownBy w8 v.ownBlock)
    (hB : Below n₀ W (w8.setCell ⟨B, 0, none⟩ v')) : KpU n₀ W (w8.setCell ⟨B, 0, none⟩ v') :=
  ⟨hB, fun i cs t' ht' hi => by
    have hlt := (Array.getElem?_eq_some_iff.1 hi).1
    have h1 := (Below.heap_alloc W tmp i hlt).trans hi
    have hne : some i ≠ v.ownBlock := by
      rcases hrow.2 with ⟨rfl, _⟩ | ⟨g, cap, cur, rfl, _, hgb, _⟩
      · simp [Value.ownBlock]
      · intro e'
        obtain rfl : i = g := by simpa [Value.ownBlock] using e'
        rw [hgb] at hi; cases hi; exact he ht'
    have h2 := (hg.block i (by simp; omega) hne).trans h1
    have hnB : some i ≠ some B := by intro e'; injection e' with e'; subst e'; rw [show W.heap[i]? = _ from hb] at hi; cases hi; exact ht ht'
    exact ((grownBy_setCell' w8 B v').block i (Array.getElem?_eq_some_iff.1 h2).1 hnB).trans h2⟩
theorem info3 : (Tryz.prog.info? 3).map (fun i => (i.zero, i.size, i.bytes)) = some (some (.int .i64 0), 1, 8) := by kernel_rfl

set_option maxRecDepth 20000 in
set_option maxHeartbeats 1000000 in
theorem lenders_in (n : Nat) (hn : 6 ≤ n) (l : List Cls) (p : Option Addr) (a : Int) (hida : (Lit.int .i64 a).wf = true) (w : World) (ht : TreeV w w.heap.size (.pointer p) l) :
    CallsIn Fence.wide n Tryz.prog 158 #[.pointer p, .int .i64 a] w fun e W' => ∃ v, e = .returned v ∧ W'.ownsRow w.heap.size 3 1 v (lendS l a).length (St.I (lendS l a)) ∧ Below w.heap.size w W' := by
  have h1 : 1 ≤ n := by omega
  obtain ⟨i0, hi, hz0, hz1, hz2⟩ := info_parts info3
  refine callsIn_of_wp_marks Tryz.func158 rfl trivial ?_ rfl
  simp only [Tryz.ntmps158, List.size_toArray, List.length_cons, List.length_nil, Nat.reduceAdd, Nat.reduceSub, Array.replicate_succ, Array.replicate_zero, List.push_toArray, List.append_toArray, List.nil_append, List.cons_append]
  gi_wp2_with (refine ⟨trivial, ?_⟩; gi_at_call 62; refine (callsIn_wide.2 (up_c _ _ _)).mono ?_; rintro e w' ⟨rfl, rfl⟩)
  obtain ⟨w1, hw1⟩ : ∃ w1, w.alloc (.cells #[.pointer p] 39) = w1 := ⟨_, rfl⟩
  obtain ⟨w2, hw2⟩ : ∃ w2, w1.alloc (.cells #[.slice none 0 0] 38) = w2 := ⟨_, rfl⟩
  obtain ⟨w4, hw4⟩ : ∃ w4, w2.alloc (.cells #[.pointer p] 39) = w4 := ⟨_, rfl⟩
  obtain ⟨w5, hw5⟩ : ∃ w5, w4.alloc (.cells #[.int .i64 a] 3) = w5 := ⟨_, rfl⟩
  have z1 : w1.heap.size = w.heap.size + 1 := by rw [← hw1]; simp
  have z2 : w2.heap.size = w.heap.size + 1 + 1 := by rw [← hw2, World.size_alloc, z1]
  have z4 : w4.heap.size = w.heap.size + 1 + 1 + 1 := by rw [← hw4, World.size_alloc, z2]
  have z5 : w5.heap.size = w.heap.size + 1 + 1 + 1 + 1 := by rw [← hw5, World.size_alloc, z4]
  have hB5 : Below w.heap.size w w5 := by rw [← hw5, ← hw4, ← hw2, ← hw1]; exact ((((Below.refl _ w).alloc (Nat.le_refl _) _).alloc (by simp) _).alloc (by simp; omega) _).alloc (by simp; omega) _
  have b3 : Boxed w5 w.heap.size 39 (.pointer p) := by rw [← hw5, ← hw4, ← hw2, ← hw1]; exact (((Boxed.new w _ _).alloc _).alloc _).alloc _
  have b6 : Boxed w5 (w.heap.size + 1) 38 (.slice none 0 0) := by rw [← z1, ← hw5, ← hw4, ← hw2]; exact ((Boxed.new w1 _ _).alloc _).alloc _
  have b7 : Boxed w5 (w.heap.size + 1 + 1) 39 (.pointer p) := by rw [← z2, ← hw5, ← hw4]; exact (Boxed.new w2 _ _).alloc _
  have b8 : Boxed w5 (w.heap.size + 1 + 1 + 1) 3 (.int .i64 a) := by rw [← z4, ← hw5]; exact Boxed.new w4 _ _
  rw [hw1, hw2, hw4, hw5]
  clear hw1 hw2 hw4 hw5
  refine wpIn_rangeFunc_ownF (F := Fence.wide) rfl h1 (gf := 136) (lb := #[.pointer (some ⟨w.heap.size + 1 + 1 + 1, 0, none⟩), .pointer (some ⟨w.heap.size + 1 + 1, 0, none⟩)]) rfl trivial (enters_of Tryz.func136 (by kernel_rfl) rfl)
    (up_stops (n - 1) (by omega) (w.heap.size + 1 + 1 + 1) (w.heap.size + 1 + 1) w.heap.size l ht.fit a hida (.pointer p) w5 (by omega) (by omega) (by omega) b8.cell b7 (ht.below hB5)) KpU.trans (kpU_b (by omega)) (Below.refl _ _) (fun _ => rfl)
    (fun pre W => ((∀ y ∈ pre, goes y = true) ∧ Boxed W w.heap.size 39 (.pointer p) ∧ (∃ v, Boxed W (w.heap.size + 1) 38 v ∧ W.ownsRow w.heap.size 3 1 v (pars pre).length (St.I (pars pre)) ∧ True)) ∧ Below w.heap.size w W)
    (fun c pre W => (c = .exit 0 ∧ (∃ pre' x, pre = pre' ++ [x] ∧ (∀ y ∈ pre', goes y = true) ∧ goes x = false ∧ (∃ v, Boxed W (w.heap.size + 1) 38 v ∧ W.ownsRow w.heap.size 3 1 v (pars pre').length (St.I (pars pre')) ∧ True))) ∧ Below w.heap.size w W)
    (OwnFrom.and (Own.from (fun s A B row hs hg hr => ⟨hs.1, boxed_own _ _ (fun _ : Unit => _) () A B row hs.2.1 hg hr, holdsRow_own w.heap.size (w.heap.size + 1) 38 3 1 (fun pre : List (Ci l) => (pars pre).length) (fun pre => St.I (pars pre)) (fun _ _ => True) s A B row hs.2.2 hg hr⟩) _) (ownFrom_below (Nat.le_refl _) (by omega)))
    (fun c => OwnFrom.and (Own.from (fun s A B row hs hg hr => by obtain ⟨e, pre', x, e2, h3, h4, h5⟩ := hs; exact ⟨e, pre', x, e2, h3, h4, holdsRow_own w.heap.size (w.heap.size + 1) 38 3 1 (fun pre : List (Ci l) => (pars pre).length) (fun pre => St.I (pars pre)) (fun _ _ => True) pre' A B row h5 hg hr⟩) _) (ownFrom_below (Nat.le_refl _) (by omega)))
    ⟨⟨by simp, b3, _, b6, World.ownsRow_nil .., trivial⟩, hB5⟩
    (fun x => { tmps := #[.pointer p, .int .i64 a, .pointer (some ⟨w.heap.size, 0, none⟩), undef, .slice none 0 0, .pointer (some ⟨w.heap.size + 1, 0, none⟩), .int .i64 x.1.id, undef, undef, .pointer p, .int .i64 a, .func (.func 136) #[] #[.pointer (some ⟨w.heap.size + 1 + 1 + 1, 0, none⟩), .pointer (some ⟨w.heap.size + 1 + 1, 0, none⟩)], .int .i64 x.1.id, undef, undef, undef, undef, undef, undef, undef, undef, undef, undef, undef, undef, undef, undef, undef, undef, undef, undef, undef, undef], defers := [] }) ?assign ?body ?done ?stop
  case assign =>
    intro k x W K hK
    dsimp only [encU]
    gi_wp2
    exact hK
  case body =>
    rintro k pre x W ⟨⟨hp, hc3, v, hv, hrow, _⟩, hB⟩ hlt
    have hcc3 := hc3.cell
    have hcv := hv.cell
    have hcl := vclass_c (.pointer p) x.1.id (zero_cls ht.fit x).1 W ((ht.below hB).up hB.size)
    rw [x.2] at hcl
    unfold ClassOk clsV at hcl
    dsimp only [Option.getD, Option.isSome] at hcl
    have HC := Lib.hid hcl
    have HP := Lib.hid hp
    have HROW := Lib.hid hrow
    have hd : 1 ≤ n - 1 - 1 := by omega
    obtain ⟨q, hq⟩ : ∃ q, q = brw x.1 := ⟨_, rfl⟩
    have HQ := Lib.hid hq
    clear hp hcl hq hrow
    cases q with
    | false =>
      gi_wp2_with (first
        | (refine ⟨trivial, ?_⟩; gi_at_call 63; (with_reducible refine (CallsIn.inRound k (callsIn_wide.2 HC.out)).mono ?_); rintro e W1 ⟨rfl, hb1⟩; have HB1 := Lib.hid hb1; clear hb1
           have HH0 := Lib.hid (heap_alloc_new W1 (.cells #[.int .i64 0, .int .i64 0, .float .f64 0, .int .i64 0, .int .i64 0, .int .i64 0, .int .i64 0, .int .i64 0, .int .i64 0, .bool false, .bool false] 84)))
        | (refine wpListIn_store_whole (by rfl) 84 _ _ (by rfl) 11 Tryz.sizeOf84 W1.heap.size _ _ 84 (by rfl) (by rfl) HH0.out (by rfl) (by rfl) (by simp [Value.oneCell']) ?_; intro W5 hb5 hg5
           have r0 := cells_at hb5 0 _ rfl; have r1 := cells_at hb5 1 _ rfl; have r2 := cells_at hb5 2 _ rfl; have r3 := cells_at hb5 3 _ rfl; have r4 := cells_at hb5 4 _ rfl; have r5 := cells_at hb5 5 _ rfl; have r6 := cells_at hb5 6 _ rfl; have r7 := cells_at hb5 7 _ rfl; have r8 := cells_at hb5 8 _ rfl; have r9 := cells_at hb5 9 _ rfl; have r10 := cells_at hb5 10 _ rfl
           have HB5 := Lib.hid (show Below W.heap.size W W5 from (HB1.out.alloc HB1.out.size _).grown hg5 (by have := HB1.out.size; simp; omega) (fun q hq => by injection hq with hq; subst hq; exact HB1.out.size))
           have hbo := borrows_any x.1 W5
           unfold Cls.agg Ret1 at hbo
           rw [show (!x.1.bounded && !x.1.isolated) = brw x.1 from rfl, ← HQ.out] at hbo
           have HBO := Lib.hid hbo
           have HR5 := Lib.hid hb5
           clear hb5 hg5 hbo)
        | (refine ⟨trivial, ?_⟩; gi_at_call 220; (with_reducible refine (CallsIn.inRound k (callsIn_wide.2 HBO.out)).mono ?_); rintro e W6 ⟨rfl, hb6⟩
           have hq1 := cells_at ((hb6.block _ (Array.getElem?_eq_some_iff.1 HR5.out).1).trans HR5.out) 1 _ rfl
           have HB6 := Lib.hid (HB5.out.trans (hb6.mono HB5.out.size)); clear hb6 r0 r1 r2 r3 r4 r5 r6 r7 r8 r9 r10)
        )
      have hg := grown_of_below HB6.out
      exact ⟨keeps_below HB6.out, ⟨rfl, pre, x, rfl, HP.out, by unfold goes; rw [← HQ.out]; simp, v, hv.kept hg (by simp), own_same (w' := W6) HROW.out (fun q hq => HB6.out.block q (HROW.out.lt q hq).2), trivial⟩, hB.trans (HB6.out.mono hB.size)⟩
    | true =>
      by_cases h0 : x.1.parent = 0
      · have e0 : (x.1.parent == 0) = true := by simp [h0]
        have E0 := Lib.hid e0
        clear h0
        gi_wp2_with (first
        | (refine ⟨trivial, ?_⟩; gi_at_call 63; (with_reducible refine (CallsIn.inRound k (callsIn_wide.2 HC.out)).mono ?_); rintro e W1 ⟨rfl, hb1⟩; have HB1 := Lib.hid hb1; clear hb1
           have HH0 := Lib.hid (heap_alloc_new W1 (.cells #[.int .i64 0, .int .i64 0, .float .f64 0, .int .i64 0, .int .i64 0, .int .i64 0, .int .i64 0, .int .i64 0, .int .i64 0, .bool false, .bool false] 84)))
        | (refine wpListIn_store_whole (by rfl) 84 _ _ (by rfl) 11 Tryz.sizeOf84 W1.heap.size _ _ 84 (by rfl) (by rfl) HH0.out (by rfl) (by rfl) (by simp [Value.oneCell']) ?_; intro W5 hb5 hg5
           have r0 := cells_at hb5 0 _ rfl; have r1 := cells_at hb5 1 _ rfl; have r2 := cells_at hb5 2 _ rfl; have r3 := cells_at hb5 3 _ rfl; have r4 := cells_at hb5 4 _ rfl; have r5 := cells_at hb5 5 _ rfl; have r6 := cells_at hb5 6 _ rfl; have r7 := cells_at hb5 7 _ rfl; have r8 := cells_at hb5 8 _ rfl; have r9 := cells_at hb5 9 _ rfl; have r10 := cells_at hb5 10 _ rfl
           have HB5 := Lib.hid (show Below W.heap.size W W5 from (HB1.out.alloc HB1.out.size _).grown hg5 (by have := HB1.out.size; simp; omega) (fun q hq => by injection hq with hq; subst hq; exact HB1.out.size))
           have hbo := borrows_any x.1 W5
           unfold Cls.agg Ret1 at hbo
           rw [show (!x.1.bounded && !x.1.isolated) = brw x.1 from rfl, ← HQ.out] at hbo
           have HBO := Lib.hid hbo
           have HR5 := Lib.hid hb5
           clear hb5 hg5 hbo)
        | (refine ⟨trivial, ?_⟩; gi_at_call 220; (with_reducible refine (CallsIn.inRound k (callsIn_wide.2 HBO.out)).mono ?_); rintro e W6 ⟨rfl, hb6⟩
           have hq1 := cells_at ((hb6.block _ (Array.getElem?_eq_some_iff.1 HR5.out).1).trans HR5.out) 1 _ rfl
           have HB6 := Lib.hid (HB5.out.trans (hb6.mono HB5.out.size)); clear hb6 r0 r1 r2 r3 r4 r5 r6 r7 r8 r9 r10)
        )
        have hg := grown_of_below HB6.out
        exact ⟨keeps_below HB6.out, ⟨rfl, pre, x, rfl, HP.out, by unfold goes; rw [← HQ.out, E0.out]; rfl, v, hv.kept hg (by simp), own_same (w' := W6) HROW.out (fun q hq => HB6.out.block q (HROW.out.lt q hq).2), trivial⟩, hB.trans (HB6.out.mono hB.size)⟩
      · have e0 : (x.1.parent == 0) = false := by simp [h0]
        have E0 := Lib.hid e0
        have hpl : (pars pre).length < 65 := by unfold pars; rw [List.length_map]; exact hlt
        have HM : Hid ((pars pre).length + 1 ≤ maxLen) := Lib.hid (Nat.le_trans (show (pars pre).length + 1 ≤ 66 by omega) (by decide))
        have HM2 : Hid (((pars pre).length + 1) * 8 ≤ 140737488355328) := Lib.hid (by omega)
        clear h0
        gi_wp2_with (first
        | (refine ⟨trivial, ?_⟩; gi_at_call 63; (with_reducible refine (CallsIn.inRound k (callsIn_wide.2 HC.out)).mono ?_); rintro e W1 ⟨rfl, hb1⟩; have HB1 := Lib.hid hb1; clear hb1
           have HH0 := Lib.hid (heap_alloc_new W1 (.cells #[.int .i64 0, .int .i64 0, .float .f64 0, .int .i64 0, .int .i64 0, .int .i64 0, .int .i64 0, .int .i64 0, .int .i64 0, .bool false, .bool false] 84)))
        | (refine wpListIn_store_whole (by rfl) 84 _ _ (by rfl) 11 Tryz.sizeOf84 W1.heap.size _ _ 84 (by rfl) (by rfl) HH0.out (by rfl) (by rfl) (by simp [Value.oneCell']) ?_; intro W5 hb5 hg5
           have r0 := cells_at hb5 0 _ rfl; have r1 := cells_at hb5 1 _ rfl; have r2 := cells_at hb5 2 _ rfl; have r3 := cells_at hb5 3 _ rfl; have r4 := cells_at hb5 4 _ rfl; have r5 := cells_at hb5 5 _ rfl; have r6 := cells_at hb5 6 _ rfl; have r7 := cells_at hb5 7 _ rfl; have r8 := cells_at hb5 8 _ rfl; have r9 := cells_at hb5 9 _ rfl; have r10 := cells_at hb5 10 _ rfl
           have HB5 := Lib.hid (show Below W.heap.size W W5 from (HB1.out.alloc HB1.out.size _).grown hg5 (by have := HB1.out.size; simp; omega) (fun q hq => by injection hq with hq; subst hq; exact HB1.out.size))
           have hbo := borrows_any x.1 W5
           unfold Cls.agg Ret1 at hbo
           rw [show (!x.1.bounded && !x.1.isolated) = brw x.1 from rfl, ← HQ.out] at hbo
           have HBO := Lib.hid hbo
           have HR5 := Lib.hid hb5
           clear hb5 hg5 hbo)
        | (refine ⟨trivial, ?_⟩; gi_at_call 220; (with_reducible refine (CallsIn.inRound k (callsIn_wide.2 HBO.out)).mono ?_); rintro e W6 ⟨rfl, hb6⟩
           have hq1 := cells_at ((hb6.block _ (Array.getElem?_eq_some_iff.1 HR5.out).1).trans HR5.out) 1 _ rfl
           have HB6 := Lib.hid (HB5.out.trans (hb6.mono HB5.out.size)); have hv6 := hv.kept (grown_of_below HB6.out) (by simp); have hcv6 := hv6.cell; have HROW6 := Lib.hid (own_same (w' := W6) HROW.out (fun q hq => HB6.out.block q (HROW.out.lt q hq).2)); have HZ6 := Lib.hid (Nat.le_trans hB.size HB6.out.size); clear hb6 r0 r1 r2 r3 r4 r5 r6 r7 r8 r9 r10)
        | (gi_at_builtin; refine wpListIn_append_own _ (by rfl) _ _ 38 (by rfl) w.heap.size 3 i0 (.int .i64 0) 1 8 Tryz.underlying38 hi hz0 hz1 hz2 (by rfl) (by decide) _ _ _ (by rfl) (HROW6.out.alloc _) ⟨W6.heap.size, 0, none⟩ 1 1 [.int .i64 x.1.parent] (by rfl) (by rfl) (cell_one_new _ _ _) (by simp [Value.oneCell']) HM.out HM2.out (by have := HZ6.out; simp; omega) ?_
           intro v' w8 hown' hgrow _; obtain ⟨g', cap', rfl⟩ := ownsRow_succ hown'; obtain ⟨hv1, hv2, hr2, hk2, hb2⟩ := hv6.appended (by decide) HROW6.out HZ6.out (Nat.le_succ _) hown' hgrow
           have hc1 := hv1.cell; have hf1 := hv1.frozen
           have HV2 := Lib.hid hv2; have HR2 := Lib.hid hr2; have HK2 := Lib.hid hk2; have HGR := Lib.hid hgrow; have HOW := Lib.hid hown'; have HB2 := Lib.hid hb2
           clear hv2 hr2 hk2 hgrow hown' hb2 hv1))
        have hk := (KpU.of_below hB.size HB6.out).trans (KpU.appended hv6 (by unfold Kt; decide) (by unfold Kt; decide) HROW6.out HGR.out HB2.out)
        exact ⟨(keeps_below HB6.out).trans HK2.out, hk, ⟨fun y hy => (List.mem_append.1 hy).elim (HP.out y) (fun e => by simp at e; subst e; unfold goes; rw [← HQ.out, E0.out]; rfl), hk.2 _ _ _ (.inr rfl) hc3, _, HV2.out, by have := HR2.out; simpa [pars, St.I] using this, trivial⟩, hB.trans ((HB6.out.mono hB.size).trans HB2.out)⟩
  case done =>
    rintro D ys W hD rfl ⟨⟨hne, _, v, hv, hrow, _⟩, hB⟩ hK
    have hc := hv.cell
    have HUN := Lib.hid (lend_all hne)
    have HROW := Lib.hid hrow
    clear hne hrow
    gi_wp2
    refine ⟨by simp, .inl ⟨_, _, rfl, run_takeDeferred hK, ?_⟩⟩
    exact ⟨_, results_tmp rfl _ _ _, v, rfl, by rw [HUN.out]; exact ownsRow_putObj HROW.out _ hK rfl, hB.trans (belowK_b (w := w) (Nat.le_refl _) W D _ _ (by omega) hK rfl rfl)⟩
  case stop =>
    rintro D c pre W hD hpre ⟨⟨rfl, pre', x, rfl, hne, hx, v, hv, hrow, _⟩, hB⟩ hK
    have hc := hv.cell
    have HUN := Lib.hid (lend_hit hpre hne hx)
    have HROW := Lib.hid hrow
    clear hne hrow hx hpre
    gi_wp2
    refine ⟨by simp, .inl ⟨_, _, rfl, run_takeDeferred hK, ?_⟩⟩
    exact ⟨_, results_tmp rfl _ _ _, v, rfl, by rw [HUN.out]; exact ownsRow_putObj HROW.out _ hK rfl, hB.trans (belowK_b (w := w) (Nat.le_refl _) W D _ _ (by omega) hK rfl rfl)⟩

theorem lenders_c (l : List Cls) (p : Option Addr) (a : Int) (hida : (Lit.int .i64 a).wf = true) (w : World) (ht : TreeV w w.heap.size (.pointer p) l) :
    Calls Tryz.prog 158 #[.pointer p, .int .i64 a] w (ListOk (lendS l a) w) :=
  (callsIn_wide.1 (lenders_in 9 (by omega) l p a hida w ht)).mono fun e w' ⟨v, h1, h2, h3⟩ => by
    have h4 := h2
    rcases h4.2 with ⟨rfl, h0⟩ | ⟨g, cap, cur, rfl, _⟩
    · rw [h0] at h2; exact ⟨none, 0, by rw [h1, h0], by rw [h0]; exact Sl.of_own h2, h3⟩
    · exact ⟨_, _, h1, Sl.of_own h2, h3⟩
end Go.Proofs.YtpchhfhmopmagaaGreat.Pa

/- paths.Path. -/
namespace Go.Proofs.YtpchhfhmopmagaaGreat.Pa
open Go.RowKit Go.Shelf Go.Maps Go.Proofs.YtpchhfhmopmagaaGreat.Wd Go.Proofs.YtpchhfhmopmagaaGreat.Li Go.Proofs.YtpchhfhmopmagaaGreat.Mp Go.Proofs.YtpchhfhmopmagaaGreat.Tp Go.Proofs.YtpchhfhmopmagaaGreat.Tr Go.Proofs.YtpchhfhmopmagaaGreat.Cl Go.Proofs.YtpchhfhmopmagaaGreat.So Go.Proofs.YtpchhfhmopmagaaGreat.Sw
attribute [local go_sem] Oper.semAt_some run_store_float

end Go.Proofs.YtpchhfhmopmagaaGreat.Pa
