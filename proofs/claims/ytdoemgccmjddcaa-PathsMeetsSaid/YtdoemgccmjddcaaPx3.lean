/- paths.Up's iterator, called with a function value that counts. -/
import Derived.Test.YtdoemgccmjddcaaPaM
namespace Go.Proofs.Ytdoemgccmjddcaa.Pa
open Go.RowKit Go.Maps Go.Proofs.Ytdoemgccmjddcaa.Wd Go.Proofs.Ytdoemgccmjddcaa.Li Go.Proofs.Ytdoemgccmjddcaa.Mp Go.Proofs.Ytdoemgccmjddcaa.Tp Go.Proofs.Ytdoemgccmjddcaa.Tr Go.Proofs.Ytdoemgccmjddcaa.Cl Go.Proofs.Ytdoemgccmjddcaa.So Go.Proofs.Ytdoemgccmjddcaa.Sw
attribute [local go_sem] run_store_float

/-- a call of a function value that is known, behind a guard that lets it run -/
theorem wpList_value_g {P : Program} {ops : Array Oper} {rest : List Oper} {o : Oper} {a : Act} {Q : Exit → Act → World → Prop} {w : World} (hw : Region.wanted o (yielded ops a.tmps) = true) (t : Operand) (xs : Array Operand) (ts : Array TypeId)
    (ho : o.op = .call { callee := .value t, args := xs, argTypes := ts }) (fid : FuncId) (caps : Array Value) (hv : a.eval t = .func (.func fid) #[] caps) (args : Array Value) (hargs : xs.map a.eval ++ caps = args)
    (eg : ∀ args w, (callFunc fid args).run P w = .ok (.enter fid args) w)
    (h : Calls P fid args w fun e w' => ∃ v, e = .returned v ∧ wpList P ops Q rest (a.put o.dst v) w') : wpList P ops Q (o :: rest) a w := by
  unfold wpList
  rw [if_pos hw]
  left
  have hrun : (execOp a.eval o).run P w = .ok (.enter fid args) w := by
    subst hargs
    simp [execOp, ho, resolve, hv, invoke, eg, Deferred.ofValue]
  unfold Oper.wp
  rw [hrun]
  refine Calls.mono h ?_
  rintro e w' ⟨v, rfl, hv⟩
  exact hv

set_option maxRecDepth 20000 in
set_option maxHeartbeats 1000000 in
theorem cnt_c (Bn Bm k : Nat) (most x : Int) (hk : k ≤ 65) (hne : Bm ≠ Bn) (w : World) (hn : Boxed w Bn 3 (.int .i64 (k : Int))) (hm : w.cell? ⟨Bm, 0, none⟩ = some (.int .i64 most)) :
    Calls Try.prog 89 #[.int .i64 x, .pointer (some ⟨Bn, 0, none⟩), .pointer (some ⟨Bm, 0, none⟩)] w fun e w' => e = .returned (.bool (((k + 1 : Nat) : Int) != most)) ∧ w' = w.setCell ⟨Bn, 0, none⟩ (.int .i64 ((k + 1 : Nat) : Int)) := by
  have hc := hn.cell
  have hf := hn.frozen
  have hm2 : (w.setCell ⟨Bn, 0, none⟩ (.int .i64 ((k : Int) + 1))).cell? ⟨Bm, 0, none⟩ = some (.int .i64 most) := by
    rw [World.cell?_setCell_other _ _ _ _ (fun e => hne (by injection e with e; exact e.symm))]; exact hm
  have hn2 := (hn.set (.int .i64 ((k : Int) + 1))).cell
  go_enter Try.func89, Try.ntmps89
  go_wp2
  go_ret
  exact ⟨rfl, rfl⟩

set_option maxRecDepth 20000 in
set_option maxHeartbeats 1000000 in
theorem upn_c (Bi Bt Bn Bm n₀ : Nat) (l : List Cls) (F0 : Fit l) (id most : Int) (hid : (Lit.int .i64 id).wf = true) (v : Value) (w : World) (hn₀ : n₀ ≤ Bn) (hm0 : Bm < n₀) (hBnt : Bn ≠ Bt) (hBnw : Bn < w.heap.size)
    (hBi : w.cell? ⟨Bi, 0, none⟩ = some (.int .i64 id)) (hBt : w.heap[Bt]? = some (.cells #[v] 96 (0, 0))) (hBn : Boxed w Bn 3 (.int .i64 0)) (hBm : w.cell? ⟨Bm, 0, none⟩ = some (.int .i64 most)) (ht : TreeV w n₀ v l) :
    Calls Try.prog 140 #[.func (.func 89) #[] #[.pointer (some ⟨Bn, 0, none⟩), .pointer (some ⟨Bm, 0, none⟩)], .pointer (some ⟨Bi, 0, none⟩), .pointer (some ⟨Bt, 0, none⟩)] w fun e w' =>
      (∃ v, e = .returned v) ∧ ∃ k : Nat, (k = (way l id).length ∨ (k : Int) = most) ∧ k ≤ 65 ∧ Boxed w' Bn 3 (.int .i64 (k : Int)) ∧ Below n₀ w w' := by
  have HT := Lib.hid ht
  have HF := Lib.hid F0
  have HBM := Lib.hid hBm
  have HBT := Lib.hid hBt
  have HBN := Lib.hid hBn
  have hlen := way_len (l := l) id
  clear ht F0 hBm hBt hBn
  go_enter Try.func140, Try.ntmps140
  go_wp2
  go_loopg [4] ((way l id).length) (fun kx s4 wr => ∃ (k : Nat) (at_ : Int), s4 = .int .i64 at_ ∧ (Lit.int .i64 at_).wf = true ∧ (way l at_).length ≤ kx ∧ k + (way l at_).length = (way l id).length ∧ Hid (Boxed wr Bn 3 (.int .i64 (k : Int))) ∧ Hid (wr.heap[Bt]? = some (.cells #[v] 96 (0, 0))) ∧ Hid (Below n₀ w wr) ∧ Bn < wr.heap.size)
  case atStart => exact ⟨0, id, rfl, hid, Nat.le_refl _, Nat.zero_add _, HBN, HBT, Lib.hid (Below.refl _ _), hBnw⟩
  case round =>
    obtain ⟨k, at_, rfl, hwf, hkx, hkl, HN, HB, HW, hnw⟩ := hrel
    have hbt2 : wr.cell? ⟨Bt, 0, none⟩ = some v := cells_at HB.out 0 _ rfl
    have hsz : n₀ ≤ wr.heap.size := by omega
    have hbtl := (Array.getElem?_eq_some_iff.1 HB.out).1
    have hcon := vclass_c v at_ hwf wr ((HT.out.below HW.out).up hsz)
    unfold ClassOk clsV at hcon
    cases hcl : at? l at_ with
    | none =>
      rw [hcl] at hcon
      dsimp only [Option.getD, Option.isSome, clsZ] at hcon
      have hw0 : way l at_ = [] := way_none hcl
      rw [hw0] at hkl
      have HC := Lib.hid hcon
      clear hcon hcl hw0
      go_wp2_with (go_at_call 77; (with_reducible refine (HC.out).mono ?_); rintro e w1 ⟨rfl, hb1⟩; have HB1 := Lib.hid hb1; clear hb1)
      (try simp only [Exit.inBlock, Exit.then])
      refine bodyPost_ret (results_none rfl _ _ _) rfl ?_
      refine ⟨⟨_, rfl⟩, k, .inl (by simpa using hkl), by simp at hkl; omega, ?_, ?_⟩
      · exact (HN.out.kept (grown_of_below HB1.out) (by simp)).alloc _
      · exact (HW.out.trans (HB1.out.mono hsz)).alloc (by have := HB1.out.size; omega) _
    | some c =>
      have hcc : at? l c.id = some c := by rw [(at_mem hcl).2]; exact hcl
      rw [hcl] at hcon
      dsimp only [Option.getD, Option.isSome] at hcon
      have hw0 : way l at_ = ⟨c, hcc⟩ :: way l c.parent := way_some HF.out hcl hcc
      rw [hw0, List.length_cons] at hkl hkx
      have hpos := HF.out.pos hcl
      have hwf2 : (Lit.int .i64 c.parent).wf = true := wf_small hpos.2.2.1 hpos.2.2.2
      have HC := Lib.hid hcon
      clear hcon hcl hw0 hpos
      go_upto_region 2 with (go_at_call 77; (with_reducible refine (HC.out).mono ?_); rintro e w1 ⟨rfl, hb1⟩; have HB1 := Lib.hid hb1; clear hb1)
      have hd := new_cls w1 c
      have p1 := hd 1 _ rfl
      have hs1 := HB1.out.size
      have hbx : Boxed (w1.alloc (.cells #[.int .i64 c.id, .int .i64 c.parent, .float .f64 c.share, .int .i64 c.prio, .int .i64 c.quantum, .int .i64 c.limit, .int .i64 c.weight, .int .i64 c.minIdle, .int .i64 c.maxIdle, .bool c.bounded, .bool c.isolated] 64)) Bn 3 (.int .i64 (k : Int)) := (HN.out.kept (grown_of_below HB1.out) (by simp)).alloc _
      have hbw : Below n₀ w (w1.alloc (.cells #[.int .i64 c.id, .int .i64 c.parent, .float .f64 c.share, .int .i64 c.prio, .int .i64 c.quantum, .int .i64 c.limit, .int .i64 c.weight, .int .i64 c.minIdle, .int .i64 c.maxIdle, .bool c.bounded, .bool c.isolated] 64)) := (HW.out.trans (HB1.out.mono hsz)).alloc (by omega) _
      have hbB : (w1.alloc (.cells #[.int .i64 c.id, .int .i64 c.parent, .float .f64 c.share, .int .i64 c.prio, .int .i64 c.quantum, .int .i64 c.limit, .int .i64 c.weight, .int .i64 c.minIdle, .int .i64 c.maxIdle, .bool c.bounded, .bool c.isolated] 64)).heap[Bt]? = some (.cells #[v] 96 (0, 0)) := (Below.heap_alloc w1 _ _ (by omega)).trans ((HB1.out.block _ hbtl).trans HB.out)
      have hsW : (w1.alloc (.cells #[.int .i64 c.id, .int .i64 c.parent, .float .f64 c.share, .int .i64 c.prio, .int .i64 c.quantum, .int .i64 c.limit, .int .i64 c.weight, .int .i64 c.minIdle, .int .i64 c.maxIdle, .bool c.bounded, .bool c.isolated] 64)).heap.size = w1.heap.size + 1 := by simp
      clear hd
      generalize World.alloc w1 _ = W at *
      have hcnt := cnt_c Bn Bm k most at_ (by omega) (by omega) W hbx ((hbw.cell (p := ⟨Bm, 0, none⟩) hm0).trans HBM.out)
      have p2 : (W.setCell ⟨Bn, 0, none⟩ (.int .i64 ((k + 1 : Nat) : Int))).cell? ⟨w1.heap.size, 1, none⟩ = some (.int .i64 c.parent) := by
        rw [World.cell?_setCell_other _ _ _ _ (fun e => by injection e with e; omega)]; exact p1
      have hn2 := Lib.hid (hbx.set (.int .i64 ((k + 1 : Nat) : Int)))
      have hb2 := Lib.hid (show Below n₀ w (W.setCell ⟨Bn, 0, none⟩ (.int .i64 ((k + 1 : Nat) : Int))) from hbw.setCell (p := ⟨Bn, 0, none⟩) hn₀ _)
      have ht2 := Lib.hid (show (W.setCell ⟨Bn, 0, none⟩ (.int .i64 ((k + 1 : Nat) : Int))).heap[Bt]? = some (.cells #[v] 96 (0, 0)) from ((grownBy_setCell' W Bn _).block Bt (by omega) (fun e => hBnt (by injection e with e; exact e.symm))).trans hbB)
      have hs2 : (W.setCell ⟨Bn, 0, none⟩ (.int .i64 ((k + 1 : Nat) : Int))).heap.size = w1.heap.size + 1 := by simp [hsW]
      obtain ⟨W2, hW2⟩ : ∃ W2, W2 = W.setCell ⟨Bn, 0, none⟩ (.int .i64 ((k + 1 : Nat) : Int)) := ⟨_, rfl⟩
      rw [← hW2] at hcnt p2 hn2 hb2 ht2 hs2
      obtain ⟨q, hq⟩ : ∃ q, q = (((k + 1 : Nat) : Int) != most) := ⟨_, rfl⟩
      rw [← hq] at hcnt
      have HCN := Lib.hid hcnt
      have HQ := Lib.hid hq
      clear hcnt hbx hbw hbB hW2 hq p1 hbt2
      cases q with
      | false =>
        go_wp2_with fail
        refine (HCN.out).mono ?_
        rintro e w9 ⟨rfl, hw9⟩
        subst hw9
        go_wp2
        refine bodyPost_ret (results_none rfl _ _ _) rfl ?_
        have hmq : ((k + 1 : Nat) : Int) = most := by have := HQ.out; simpa using this.symm
        exact ⟨⟨_, rfl⟩, k + 1, .inr hmq, by omega, hn2.out, hb2.out⟩
      | true =>
        go_wp2_with fail
        refine (HCN.out).mono ?_
        rintro e w9 ⟨rfl, hw9⟩
        subst hw9
        go_wp2
        go_roundg ((way l c.parent).length)
        case measure => omega
        case rel => exact ⟨k + 1, c.parent, rfl, hwf2, Nat.le_refl _, by omega, hn2, ht2, hb2, by omega⟩
end Go.Proofs.Ytdoemgccmjddcaa.Pa
