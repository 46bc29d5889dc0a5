/- Class, Leaf, Leaves; a tree that is not there. -/
import Derived.Test.YtpchhfhmopmagaaGreatTr7
set_option linter.unusedVariables false
set_option linter.unusedSimpArgs false
namespace Go.Proofs.YtpchhfhmopmagaaGreat.Tr
open Go.RowKit Go.Maps Go.Proofs.YtpchhfhmopmagaaGreat.Wd Go.Proofs.YtpchhfhmopmagaaGreat.Li Go.Proofs.YtpchhfhmopmagaaGreat.Mp Go.Proofs.YtpchhfhmopmagaaGreat.Tp Go.Proofs.YtpchhfhmopmagaaGreat.Cl Go.Proofs.YtpchhfhmopmagaaGreat.So Go.Proofs.YtpchhfhmopmagaaGreat.Sw
attribute [local go_sem] run_store_float

def ClassOk (o : Option Cls) (w : World) (e : Ending) (w' : World) : Prop := e = .returned (.tuple #[clsV (o.getD clsZ), .bool o.isSome]) ∧ Below w.heap.size w w'
set_option maxRecDepth 20000 in
set_option maxHeartbeats 2000000 in
theorem tclass_c (T : Nat) (l : List Cls) (id : Int) (hid : (Lit.int .i64 id).wf = true) (w : World) (hT : TreeAt w w.heap.size T l) : Calls Tryz.prog 63 #[.pointer (some ⟨T, 0, none⟩), .int .i64 id] w (ClassOk (at? l id) w) := by
  obtain ⟨h, A, c, kf, rfl, hlt, hc, _, hm, _⟩ := hT
  have hb0 : Below w.heap.size w (w.alloc (.cells #[.int .i64 0, .int .i64 0, .float .f64 0, .int .i64 0, .int .i64 0, .int .i64 0, .int .i64 0, .int .i64 0, .int .i64 0, .bool false, .bool false] 84)) := (Below.refl _ w).alloc (Nat.le_refl _) _
  have hh0 := heap_alloc_new w (.cells #[.int .i64 0, .int .i64 0, .float .f64 0, .int .i64 0, .int .i64 0, .int .i64 0, .int .i64 0, .int .i64 0, .int .i64 0, .bool false, .bool false] 84)
  have hs0 : (w.alloc (.cells #[.int .i64 0, .int .i64 0, .float .f64 0, .int .i64 0, .int .i64 0, .int .i64 0, .int .i64 0, .int .i64 0, .int .i64 0, .bool false, .bool false] 84)).heap.size = w.heap.size + 1 := by simp
  have hT1 := (hb0.block _ hlt).trans hc
  have hm1 := hm.below hb0 (by omega)
  generalize hw1 : World.alloc w _ = w1 at *
  have t1 := cells_at hT1 1 _ rfl
  have hlook := hm1.look_ok cls_kind Tryz.underlying3 Tryz.underlying131 (zcls w1) hid
  obtain ⟨o, ho⟩ : ∃ o, o = at? l id := ⟨_, rfl⟩
  rw [← ho] at hlook ⊢
  unfold ClassOk
  obtain ⟨x, hx⟩ : ∃ x, x = o.getD clsZ := ⟨_, rfl⟩
  obtain ⟨ok, hok⟩ : ∃ ok, ok = o.isSome := ⟨_, rfl⟩
  rw [← hx, ← hok] at hlook ⊢
  unfold clsV at hlook ⊢
  have HB0 := Lib.hid hb0; have HH0 := Lib.hid hh0; have HW1 := Lib.hid hw1; have HS0 := Lib.hid hs0
  clear hc hm hm1 hT1 hb0 hh0 ho hx hok hs0
  clear hw1
  go_enter Tryz.func63, Tryz.ntmps63
  go_upto_region 3 with fail
  rw [HW1.out]
  go_wp2_with (first | (refine wpList_store_whole (by rfl) 84 _ _ (by rfl) 11 Tryz.sizeOf84 w.heap.size _ _ 84 (by rfl) (by rfl) ((Below.heap_alloc _ _ _ (by rw [HS0.out]; omega)).trans HH0.out) (by rfl) (by rfl) (by simp [Value.oneCell']) ?_; intro w5 hb5 hg5; have r0 := cells_at hb5 0 _ rfl; have r1 := cells_at hb5 1 _ rfl; have r2 := cells_at hb5 2 _ rfl; have r3 := cells_at hb5 3 _ rfl; have r4 := cells_at hb5 4 _ rfl; have r5 := cells_at hb5 5 _ rfl; have r6 := cells_at hb5 6 _ rfl; have r7 := cells_at hb5 7 _ rfl; have r8 := cells_at hb5 8 _ rfl; have r9 := cells_at hb5 9 _ rfl; have r10 := cells_at hb5 10 _ rfl; have HG5 := Lib.hid hg5; clear hb5 hg5))
  (try simp only [Exit.inBlock, Exit.then])
  refine bodyPost_ret (v := .tuple #[.agg #[.int .i64 x.id, .int .i64 x.parent, .float .f64 x.share, .int .i64 x.prio, .int .i64 x.quantum, .int .i64 x.limit, .int .i64 x.weight, .int .i64 x.minIdle, .int .i64 x.maxIdle, .bool x.bounded, .bool x.isolated], .bool ok]) (by simp [results, Tryz.results63, go_sem, r0, r1, r2, r3, r4, r5, r6, r7, r8, r9, r10]) rfl ?_
  exact ⟨rfl, (HB0.out.alloc (by rw [HS0.out]; omega) _).grown HG5.out (by have := HS0.out; simp; omega) (fun q hq => by injection hq; omega)⟩

def leafB (l : List Cls) (id : Int) : Bool := (at? l id).isSome && decide ((kids l id).length = 0)
set_option maxRecDepth 20000 in
set_option maxHeartbeats 1000000 in
theorem tleaf_c (T : Nat) (l : List Cls) (id : Int) (hid : (Lit.int .i64 id).wf = true) (w : World) (hT : TreeAt w w.heap.size T l) : Calls Tryz.prog 61 #[.pointer (some ⟨T, 0, none⟩), .int .i64 id] w fun e w' => e = .returned (.bool (leafB l id)) ∧ Below w.heap.size w w' := by
  have HT := Lib.hid hT
  have hcl := tclass_c T l id hid w hT
  unfold ClassOk at hcl
  cases ho : at? l id with
  | none =>
    have hlf : leafB l id = false := by unfold leafB; rw [ho]; rfl
    rw [hlf]
    rw [ho] at hcl
    simp only [Option.getD_none, Option.isSome_none] at hcl
    unfold clsV at hcl
    have HCL := Lib.hid hcl
    clear hcl hlf ho hT
    go_enter Tryz.func61, Tryz.ntmps61
    go_wp2_with (go_at_call 63; refine (HCL.out).mono ?_; rintro e w1 ⟨rfl, hb1⟩; have HB1 := Lib.hid hb1; clear hb1)
    go_ret
    exact ⟨rfl, HB1.out.alloc HB1.out.size _⟩
  | some x =>
    have hlf : leafB l id = decide ((kids l id).length = 0) := by unfold leafB; rw [ho]; rfl
    rw [hlf]
    rw [ho] at hcl
    simp only [Option.getD_some, Option.isSome_some] at hcl
    unfold clsV at hcl
    have HCL := Lib.hid hcl
    obtain ⟨h, A, c, kf, rfl, hlt, hc, _, _, hk, hr, _⟩ := hT
    obtain ⟨A', c', e, hs⟩ := hr id
    have HK := Lib.hid hk; have HC := Lib.hid hc; have HE := Lib.hid e
    clear hcl hlf ho hc hk hr e hs
    by_cases h0 : (kids l id).length = 0
    · have e0 : (((kids l id).length : Int) == 0) = true := by rw [beq_iff_eq]; omega
      have ed : decide ((kids l id).length = 0) = true := decide_eq_true h0
      rw [ed]
      clear ed
      generalize hn : (kids l id).length = n at *
      have HN := Lib.hid hn
      clear h0 hn
      go_enter Tryz.func61, Tryz.ntmps61
      go_wp2_with (first | (go_at_call 63; refine (HCL.out).mono ?_; rintro e w1 ⟨rfl, hb1⟩; have HB1 := Lib.hid hb1; have t2 : ∀ o, (w1.alloc o).cell? ⟨h + 3, 2, none⟩ = some (.map (some (h + 1))) := (fun o => Lib.cell?_alloc_some _ (cells_at ((hb1.block _ hlt).trans HC.out) 2 _ rfl)); have hlook : ∀ o, (Instr.lookup 132 (.map (some (h + 1))) (.int .i64 id) false).run Tryz.prog (w1.alloc o) = .ok (.slice A' n c') (w1.alloc o) := (fun o => by have := ((HK.out.below hb1 (by omega)).alloc o).look sv_kind Tryz.underlying3 Tryz.underlying132 (zslice (w1.alloc o)) hid; rw [HE.out] at this; exact this); clear hb1))
      go_ret
      exact ⟨rfl, HB1.out.alloc HB1.out.size _⟩
    · have e0 : (((kids l id).length : Int) == 0) = false := by rw [beq_eq_false_iff_ne]; omega
      have ed : decide ((kids l id).length = 0) = false := decide_eq_false h0
      rw [ed]
      clear ed
      generalize hn : (kids l id).length = n at *
      have HN := Lib.hid hn
      clear h0 hn
      go_enter Tryz.func61, Tryz.ntmps61
      go_wp2_with (first | (go_at_call 63; refine (HCL.out).mono ?_; rintro e w1 ⟨rfl, hb1⟩; have HB1 := Lib.hid hb1; have t2 : ∀ o, (w1.alloc o).cell? ⟨h + 3, 2, none⟩ = some (.map (some (h + 1))) := (fun o => Lib.cell?_alloc_some _ (cells_at ((hb1.block _ hlt).trans HC.out) 2 _ rfl)); have hlook : ∀ o, (Instr.lookup 132 (.map (some (h + 1))) (.int .i64 id) false).run Tryz.prog (w1.alloc o) = .ok (.slice A' n c') (w1.alloc o) := (fun o => by have := ((HK.out.below hb1 (by omega)).alloc o).look sv_kind Tryz.underlying3 Tryz.underlying132 (zslice (w1.alloc o)) hid; rw [HE.out] at this; exact this); clear hb1))
      go_ret
      exact ⟨rfl, HB1.out.alloc HB1.out.size _⟩
end Go.Proofs.YtpchhfhmopmagaaGreat.Tr
