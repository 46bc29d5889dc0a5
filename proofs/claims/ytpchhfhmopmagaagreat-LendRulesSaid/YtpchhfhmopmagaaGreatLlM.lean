/- The law LendTells. What all rules of borrowing share (pure). The law LendRules. -/
import Derived.Test.YtpchhfhmopmagaaGreatLeM
import Derived.Test.YtpchhfhmopmagaaGreatGaM
set_option linter.unusedVariables false
set_option linter.unusedSimpArgs false
/- The law LendTells. -/
namespace Go.Proofs.YtpchhfhmopmagaaGreat.Le
open Go.RowKit Go.Maps Go.Proofs.YtpchhfhmopmagaaGreat.Fl Go.Proofs.YtpchhfhmopmagaaGreat.Wd Go.Proofs.YtpchhfhmopmagaaGreat.Li Go.Proofs.YtpchhfhmopmagaaGreat.Mp Go.Proofs.YtpchhfhmopmagaaGreat.Tp Go.Proofs.YtpchhfhmopmagaaGreat.Tr Go.Proofs.YtpchhfhmopmagaaGreat.Cl Go.Proofs.YtpchhfhmopmagaaGreat.So Go.Proofs.YtpchhfhmopmagaaGreat.Sw Go.Proofs.YtpchhfhmopmagaaGreat.Pa Go.Proofs.YtpchhfhmopmagaaGreat.Cf Go.Proofs.YtpchhfhmopmagaaGreat.Fi Go.Proofs.YtpchhfhmopmagaaGreat.Ga Go.Proofs.YtpchhfhmopmagaaGreat.Qu Go.Proofs.YtpchhfhmopmagaaGreat.Sr
attribute [local go_sem] run_store_float Lx.opX Rel.oneOk
attribute [local irreducible] Lx.wpX

set_option maxRecDepth 20000 in
set_option maxHeartbeats 1000000 in
theorem fewl_c (O : Option Addr) (on oc : Nat) (Q : Option Addr) (qn qc : Nat) (top : Int) (w : World) : Calls Tryz.prog 31 #[.agg #[.slice O on oc, .slice Q qn qc, .int .i64 top]] w fun e w' => e = .returned (.bool (decide (on ≤ 70) && decide (qn ≤ 70))) ∧ Below w.heap.size w w' := by
  have HB := Lib.hid ((Below.refl w.heap.size w).alloc (Nat.le_refl _) (.cells #[.slice O on oc, .slice Q qn qc, .int .i64 top] 62))
  by_cases h1 : on ≤ 70
  · have h1z : (on : Int) ≤ 70 := by omega
    have d1 : decide ((on : Int) ≤ 70) = true := decide_eq_true h1z
    by_cases h2 : qn ≤ 70
    · have d2 : decide ((qn : Int) ≤ 70) = true := decide_eq_true (by omega)
      have HR := Lib.hid (show (decide (on ≤ 70) && decide (qn ≤ 70)) = true by simp [h1, h2])
      clear h1 h2 h1z
      go_enter Tryz.func31, Tryz.ntmps31
      go_wp2
      go_ret
      exact ⟨by rw [HR.out]; (try simp [d2]); (try rfl), HB.out⟩
    · have d2 : decide ((qn : Int) ≤ 70) = false := decide_eq_false (by omega)
      have HR := Lib.hid (show (decide (on ≤ 70) && decide (qn ≤ 70)) = false by simp [h2])
      clear h1 h2 h1z
      go_enter Tryz.func31, Tryz.ntmps31
      go_wp2
      go_ret
      exact ⟨by rw [HR.out]; (try simp [d2]); (try rfl), HB.out⟩
  · have h1z : ¬ (on : Int) ≤ 70 := by omega
    have d1 : decide ((on : Int) ≤ 70) = false := decide_eq_false h1z
    have HR := Lib.hid (show (decide (on ≤ 70) && decide (qn ≤ 70)) = false by simp [h1])
    clear h1
    go_enter Tryz.func31, Tryz.ntmps31
    go_wp2
    go_ret
    exact ⟨by rw [HR.out]; (try simp [d1]); (try rfl), HB.out⟩
set_option maxRecDepth 20000 in
set_option maxHeartbeats 4000000 in
theorem lendtells_t (t r d : Int) (hdw : (Lit.int .i64 d).wf = true) (A : Option Addr) (na ca : Nat) (B : Option Addr) (mb cb : Nat) (l : List Cls) (fs : List F) (hs : ∀ x ∈ l, x.share < 18446744073709551616) (hcap : na ≤ ca) (O : Option Addr) (oc : Nat) (ov : List Int) (Q : Option Addr) (qc : Nat) (bs : List Int) (top : Int) (leaf : Int) (hlw : (Lit.int .i64 leaf).wf = true) (w : World) (hI : Holds w.heap.size w (.slice A na ca) l) (hF : HoldsF w.heap.size w (.slice B mb cb) fs) (hO : Sl w w.heap.size 1 O ov.length (St.I ov)) (hQ : Sl w w.heap.size 1 Q bs.length (St.I bs)) :
    Calls Tryz.prog 6 #[cfV t r d (.slice A na ca) (.slice B mb cb), .agg #[.slice O ov.length oc, .slice Q bs.length qc, .int .i64 top], .int .i64 leaf] w fun e w' => e = .returned (.bool true) ∧ Below w.heap.size w w' := by
  have HL := Lib.hid lives27
  have HFW := Lib.hid (fun u => few_c t r d A na ca B mb cb u)
  have HFL := Lib.hid (fun u => fewl_c O ov.length oc Q bs.length qc top u)
  have HI := Lib.hid hI; have HF := Lib.hid hF; have HO := Lib.hid hO; have HQ := Lib.hid hQ
  have hnl : na = l.length := (holds_parts hI).1
  have hml : mb = fs.length := (Lies.parts hF).1
  have hE0 : ((w.alloc (.cells #[.int .i64 t, .int .i64 r, .int .i64 d, .slice A na ca, .slice B mb cb] 25)).alloc (.cells #[.slice O ov.length oc, .slice Q bs.length qc, .int .i64 top] 62)).heap[w.heap.size]? = some (.cells #[.int .i64 t, .int .i64 r, .int .i64 d, .slice A na ca, .slice B mb cb] 25 (0, 0)) := (Below.heap_alloc _ _ _ (by simp)).trans (heap_alloc_new _ _)
  have hE1 : ((w.alloc (.cells #[.int .i64 t, .int .i64 r, .int .i64 d, .slice A na ca, .slice B mb cb] 25)).alloc (.cells #[.slice O ov.length oc, .slice Q bs.length qc, .int .i64 top] 62)).heap[w.heap.size + 1]? = some (.cells #[.slice O ov.length oc, .slice Q bs.length qc, .int .i64 top] 62 (0, 0)) := by
    have h := heap_alloc_new (w.alloc (.cells #[.int .i64 t, .int .i64 r, .int .i64 d, .slice A na ca, .slice B mb cb] 25)) (.cells #[.slice O ov.length oc, .slice Q bs.length qc, .int .i64 top] 62)
    rw [show (w.alloc (.cells #[.int .i64 t, .int .i64 r, .int .i64 d, .slice A na ca, .slice B mb cb] 25)).heap.size = w.heap.size + 1 by simp] at h; exact h
  have hEb : Below w.heap.size w ((w.alloc (.cells #[.int .i64 t, .int .i64 r, .int .i64 d, .slice A na ca, .slice B mb cb] 25)).alloc (.cells #[.slice O ov.length oc, .slice Q bs.length qc, .int .i64 top] 62)) := ((Below.refl _ w).alloc (Nat.le_refl _) _).alloc (by simp) _
  have hEz : ((w.alloc (.cells #[.int .i64 t, .int .i64 r, .int .i64 d, .slice A na ca, .slice B mb cb] 25)).alloc (.cells #[.slice O ov.length oc, .slice Q bs.length qc, .int .i64 top] 62)).heap.size = w.heap.size + 2 := by simp
  have H0 := Lib.hid hE0; have H1 := Lib.hid hE1; have HB0 := Lib.hid hEb; have HZ0 := Lib.hid hEz
  clear hI hF hO hQ hE0 hE1 hEb hEz
  cases hfew : (decide (na ≤ 70) && decide (mb ≤ 70)) with
  | false =>
    rw [hfew] at HFW
    clear hfew hnl hml
    go_enter Tryz.func6, Tryz.ntmps6
    go_upto_region 1 with fail
    generalize World.alloc (World.alloc w _) _ = U at *
    obtain ⟨xb, hxb⟩ : ∃ xb, xb = w.heap.size := ⟨_, rfl⟩
    obtain ⟨sb, hsb⟩ : ∃ sb, sb = w.heap.size + 1 := ⟨_, rfl⟩
    have hxU : xb < U.heap.size := by have := HZ0.out; omega
    have hsU : sb < U.heap.size := by have := HZ0.out; omega
    rw [← hsb] at H1 ⊢
    rw [← hxb] at H0 ⊢
    clear hxb hsb HZ0
    have c0 := cells_at H0.out 0 (.int .i64 t) rfl; have c1 := cells_at H0.out 1 (.int .i64 r) rfl; have c2 := cells_at H0.out 2 (.int .i64 d) rfl; have c3 := cells_at H0.out 3 (.slice A na ca) rfl; have c4 := cells_at H0.out 4 (.slice B mb cb) rfl
    go_wp2_with (first
      | (go_at_call 10; (with_reducible refine (HFW.out _).mono ?_); rintro e w1 ⟨rfl, hb1⟩; have HB1 := Lib.hid hb1;  clear hb1)
      | (go_at_call 32; (with_reducible refine (HL.out _).mono ?_); rintro e w3 ⟨rfl, hb3⟩; have HB3 := Lib.hid hb3; clear hb3))
    go_ret
    exact ⟨rfl, HB0.out.trans ((HB1.out.trans (HB3.out.mono HB1.out.size)).mono HB0.out.size)⟩
  | true =>
    rw [hfew] at HFW
    have hf2 : na ≤ 70 ∧ mb ≤ 70 := by simpa using hfew
    have h70 : l.length ≤ 70 := by omega
    have m70 : fs.length ≤ 70 := by omega
    clear hfew hf2 hml
    cases hfl : (decide (ov.length ≤ 70) && decide (bs.length ≤ 70)) with
    | false =>
      rw [hfl] at HFL
      clear hfl hnl
      go_enter Tryz.func6, Tryz.ntmps6
      go_upto_region 1 with fail
      generalize World.alloc (World.alloc w _) _ = U at *
      obtain ⟨xb, hxb⟩ : ∃ xb, xb = w.heap.size := ⟨_, rfl⟩
      obtain ⟨sb, hsb⟩ : ∃ sb, sb = w.heap.size + 1 := ⟨_, rfl⟩
      have hxU : xb < U.heap.size := by have := HZ0.out; omega
      have hsU : sb < U.heap.size := by have := HZ0.out; omega
      rw [← hsb] at H1 ⊢
      rw [← hxb] at H0 ⊢
      clear hxb hsb HZ0
      have c0 := cells_at H0.out 0 (.int .i64 t) rfl; have c1 := cells_at H0.out 1 (.int .i64 r) rfl; have c2 := cells_at H0.out 2 (.int .i64 d) rfl; have c3 := cells_at H0.out 3 (.slice A na ca) rfl; have c4 := cells_at H0.out 4 (.slice B mb cb) rfl
      have d0 := cells_at H1.out 0 (.slice O ov.length oc) rfl; have d1 := cells_at H1.out 1 (.slice Q bs.length qc) rfl; have d2 := cells_at H1.out 2 (.int .i64 top) rfl
      go_wp2_with (first
        | (go_at_call 10; (with_reducible refine (HFW.out _).mono ?_); rintro e w1 ⟨rfl, hb1⟩; have HB1 := Lib.hid hb1; have kx := (hb1.block xb hxU).trans H0.out; have ky := (hb1.block sb hsU).trans H1.out; have c0 := cells_at kx 0 (.int .i64 t) rfl; have c1 := cells_at kx 1 (.int .i64 r) rfl; have c2 := cells_at kx 2 (.int .i64 d) rfl; have c3 := cells_at kx 3 (.slice A na ca) rfl; have c4 := cells_at kx 4 (.slice B mb cb) rfl; have d0 := cells_at ky 0 (.slice O ov.length oc) rfl; have d1 := cells_at ky 1 (.slice Q bs.length qc) rfl; have d2 := cells_at ky 2 (.int .i64 top) rfl; clear kx ky; clear hb1)
        | (go_at_call 31; (with_reducible refine (HFL.out _).mono ?_); rintro e w2 ⟨rfl, hb2⟩; have HB2 := Lib.hid hb2; clear hb2)
        | (go_at_call 32; (with_reducible refine (HL.out _).mono ?_); rintro e w3 ⟨rfl, hb3⟩; have HB3 := Lib.hid hb3; clear hb3))
      go_ret
      exact ⟨rfl, HB0.out.trans ((HB1.out.trans ((HB2.out.trans (HB3.out.mono HB2.out.size)).mono HB1.out.size)).mono HB0.out.size)⟩
    | true =>
      rw [hfl] at HFL
      have hf3 : ov.length ≤ 70 ∧ bs.length ≤ 70 := by simpa using hfl
      obtain ⟨hol, hql⟩ := hf3
      clear hfl
      subst hnl
      go_enter Tryz.func6, Tryz.ntmps6
      go_upto_region 1 with fail
      generalize World.alloc (World.alloc w _) _ = U at *
      obtain ⟨xb, hxb⟩ : ∃ xb, xb = w.heap.size := ⟨_, rfl⟩
      obtain ⟨sb, hsb⟩ : ∃ sb, sb = w.heap.size + 1 := ⟨_, rfl⟩
      have hxU : xb < U.heap.size := by have := HZ0.out; omega
      have hsU : sb < U.heap.size := by have := HZ0.out; omega
      rw [← hsb] at H1 ⊢
      rw [← hxb] at H0 ⊢
      clear hxb hsb HZ0
      have c0 := cells_at H0.out 0 (.int .i64 t) rfl; have c1 := cells_at H0.out 1 (.int .i64 r) rfl; have c2 := cells_at H0.out 2 (.int .i64 d) rfl; have c3 := cells_at H0.out 3 (.slice A l.length ca) rfl; have c4 := cells_at H0.out 4 (.slice B mb cb) rfl
      have d0 := cells_at H1.out 0 (.slice O ov.length oc) rfl; have d1 := cells_at H1.out 1 (.slice Q bs.length qc) rfl; have d2 := cells_at H1.out 2 (.int .i64 top) rfl
      go_upto_region 3 with (first
        | (go_at_call 10; (with_reducible refine (HFW.out _).mono ?_); rintro e w1 ⟨rfl, hb1⟩; have HB1 := Lib.hid hb1; have kx := (hb1.block xb hxU).trans H0.out; have ky := (hb1.block sb hsU).trans H1.out; have c0 := cells_at kx 0 (.int .i64 t) rfl; have c1 := cells_at kx 1 (.int .i64 r) rfl; have c2 := cells_at kx 2 (.int .i64 d) rfl; have c3 := cells_at kx 3 (.slice A l.length ca) rfl; have c4 := cells_at kx 4 (.slice B mb cb) rfl; have d0 := cells_at ky 0 (.slice O ov.length oc) rfl; have d1 := cells_at ky 1 (.slice Q bs.length qc) rfl; have d2 := cells_at ky 2 (.int .i64 top) rfl; clear kx ky; clear hb1)
        | (go_at_call 31; (with_reducible refine (HFL.out _).mono ?_); rintro e w2 ⟨rfl, hb2⟩; have HB2 := Lib.hid hb2; clear hb2))
      have HU2 := Lib.hid (HB1.out.trans (HB2.out.mono HB1.out.size))
      have HW2 := Lib.hid (HB0.out.trans (HU2.out.mono HB0.out.size))
      have hx2 : xb < w2.heap.size := Nat.lt_of_lt_of_le hxU HU2.out.size
      have hs2 : sb < w2.heap.size := Nat.lt_of_lt_of_le hsU HU2.out.size
      clear c0 c1 c2 c3 c4 d0 d1 d2
      have K0 := Lib.hid ((HU2.out.block xb hxU).trans H0.out)
      have K1 := Lib.hid ((HU2.out.block sb hsU).trans H1.out)
      clear H0 H1
      have HCO := Lib.hid (compile_c t r d hdw A l.length ca B mb cb l fs hs (by omega) (by omega) hcap w2 ((HI.out.below HW2.out).up HW2.out.size) (Lies.up HW2.out.size (Lies.below HW2.out HF.out)))
      unfold CompCOk cfV at HCO
      have c0 := cells_at K0.out 0 (.int .i64 t) rfl; have c1 := cells_at K0.out 1 (.int .i64 r) rfl; have c2 := cells_at K0.out 2 (.int .i64 d) rfl; have c3 := cells_at K0.out 3 (.slice A l.length ca) rfl; have c4 := cells_at K0.out 4 (.slice B mb cb) rfl
      by_cases hch : chkC t r d l fs = 0
      rotate_left
      · have hrn : (chkC t r d l fs != 0) = true := by rw [bne_iff_ne]; exact hch
        have HRN := Lib.hid hch
        clear hch
        generalize hrx : chkC t r d l fs = rx at *
        clear hrx
        go_wp2_with (first
          | (go_at_call 18; (with_reducible refine (HCO.out).mono ?_); rintro e w3 (⟨_, rfl, hb3⟩ | ⟨h0, _⟩); rotate_left; exact absurd h0 HRN.out; have k3 := (hb3.block sb hs2).trans K1.out; have K3 := Lib.hid k3; have d0 := cells_at k3 0 (.slice O ov.length oc) rfl; have d1 := cells_at k3 1 (.slice Q bs.length qc) rfl; have d2 := cells_at k3 2 (.int .i64 top) rfl; have hs3 := Nat.lt_of_lt_of_le hs2 hb3.size; have HB3 := Lib.hid hb3; clear hb3 k3)
          | (go_at_call 33; (with_reducible refine (lender_nil _ _ _ leaf _).mono ?_); rintro e w4 ⟨rfl, hb4⟩; have k4 := (hb4.block sb hs3).trans K3.out; have d0 := cells_at k4 0 (.slice O ov.length oc) rfl; have d1 := cells_at k4 1 (.slice Q bs.length qc) rfl; have d2 := cells_at k4 2 (.int .i64 top) rfl; have HB4 := Lib.hid hb4; clear hb4 k4)
          | (go_at_call 34; (with_reducible refine (able_nil _ _ _ _).mono ?_); rintro e w5 ⟨rfl, hb5⟩; have HB5 := Lib.hid hb5; clear hb5)
          | (go_at_call 32; (with_reducible refine (HL.out _).mono ?_); rintro e w6 ⟨rfl, hb6⟩; have HB6 := Lib.hid hb6; clear hb6))
        go_ret
        exact ⟨rfl, HW2.out.trans ((HB3.out.trans ((HB4.out.trans ((HB5.out.trans (HB6.out.mono HB5.out.size)).mono HB4.out.size)).mono HB3.out.size)).mono HW2.out.size)⟩
      have R := chk_tree (chkC_tree hch)
      have HCH := Lib.hid hch; have HR := Lib.hid R; have HSH := Lib.hid hs
      clear hch R hs
      go_upto_region 4 with (go_at_call 18; (with_reducible refine (HCO.out).mono ?_); rintro e w3 (⟨h0, _⟩ | ⟨_, S, rfl, hS, hle, hb3⟩); exact absurd HCH.out h0; have HS3 := Lib.hid hS; have HB3 := Lib.hid hb3; clear hb3 hS hle)
      have HW3 := Lib.hid (HW2.out.trans (HB3.out.mono HW2.out.size))
      have hx3 : xb < w3.heap.size := Nat.lt_of_lt_of_le hx2 HB3.out.size
      have hs3 : sb < w3.heap.size := Nat.lt_of_lt_of_le hs2 HB3.out.size
      have L0 := Lib.hid ((HB3.out.block xb hx2).trans K0.out)
      have L1 := Lib.hid ((HB3.out.block sb hs2).trans K1.out)
      clear c0 c1 c2 c3 c4 HCO K0 K1
      have HLN := Lib.hid (slender_c t r d l fs (by omega) HR.out S O oc ov Q qc bs hol hql top leaf hlw w3 HS3.out ((HO.out.below HW3.out).more HW3.out.size) ((HQ.out.below HW3.out).more HW3.out.size))
      have HAB := Lib.hid (fun (u : World) (h : Below w3.heap.size w3 u) => sable_c t r d l fs (by omega) HR.out S O oc ov Q qc bs hol hql top u ((HS3.out.below h).up h.size) ((HO.out.below (HW3.out.trans (h.mono HW3.out.size))).more (Nat.le_trans HW3.out.size h.size)) ((HQ.out.below (HW3.out.trans (h.mono HW3.out.size))).more (Nat.le_trans HW3.out.size h.size)))
      have HWN := Lib.hid (fun (u : World) (h : Below w3.heap.size w3 u) => wanting_c t r d l fs HR.out S O oc ov Q qc bs hol hql top u ((HS3.out.below h).up h.size) ((HO.out.below (HW3.out.trans (h.mono HW3.out.size))).more (Nat.le_trans HW3.out.size h.size)) ((HQ.out.below (HW3.out.trans (h.mono HW3.out.size))).more (Nat.le_trans HW3.out.size h.size)))
      have HRL := Lib.hid (fun (u : World) (h : Below w3.heap.size w3 u) => reflender_c t r d A ca B mb cb l HR.out O oc ov Q qc bs hol hql top leaf u ((HI.out.below (HW3.out.trans (h.mono HW3.out.size))).up (Nat.le_trans HW3.out.size h.size)) ((HO.out.below (HW3.out.trans (h.mono HW3.out.size))).more (Nat.le_trans HW3.out.size h.size)) ((HQ.out.below (HW3.out.trans (h.mono HW3.out.size))).more (Nat.le_trans HW3.out.size h.size)))
      have HRA := Lib.hid (fun (u : World) (h : Below w3.heap.size w3 u) => refable_c t r d A ca B mb cb l HR.out O oc ov Q qc bs hol hql top u ((HI.out.below (HW3.out.trans (h.mono HW3.out.size))).up (Nat.le_trans HW3.out.size h.size)) ((HO.out.below (HW3.out.trans (h.mono HW3.out.size))).more (Nat.le_trans HW3.out.size h.size)) ((HQ.out.below (HW3.out.trans (h.mono HW3.out.size))).more (Nat.le_trans HW3.out.size h.size)))
      have HRW := Lib.hid (fun (u : World) (h : Below w3.heap.size w3 u) => refwanting_c t r d A ca B mb cb l (.inr HR.out) O oc ov Q qc bs hol hql u ((HI.out.below (HW3.out.trans (h.mono HW3.out.size))).up (Nat.le_trans HW3.out.size h.size)) ((HO.out.below (HW3.out.trans (h.mono HW3.out.size))).more (Nat.le_trans HW3.out.size h.size)) ((HQ.out.below (HW3.out.trans (h.mono HW3.out.size))).more (Nat.le_trans HW3.out.size h.size)))
      unfold LendOk at HLN HRL
      unfold cfV at HRL HRA HRW
      unfold ListOk at HAB HWN HRA HRW
      have hal := ableS_len (l := l) r top ov bs
      have hwl := wantS_len (l := l) ov bs
      generalize ableS l r top ov bs = zs at *
      generalize wantS l ov bs = vs at *
      generalize (lenderS l r top ov bs leaf).getD 0 = la at *
      generalize (lenderS l r top ov bs leaf).isSome = lk at *
      have d0 := cells_at L1.out 0 (.slice O ov.length oc) rfl; have d1 := cells_at L1.out 1 (.slice Q bs.length qc) rfl; have d2 := cells_at L1.out 2 (.int .i64 top) rfl
      go_upto_region 7 with (go_at_call 33; (with_reducible refine (HLN.out).mono ?_); rintro e w4 ⟨rfl, hb4⟩; have HB4 := Lib.hid hb4; clear hb4)
      clear d0 d1 d2
      have M0 := Lib.hid ((HB4.out.block xb hx3).trans L0.out)
      have M1 := Lib.hid ((HB4.out.block sb hs3).trans L1.out)
      have hx4 : xb < w4.heap.size := Nat.lt_of_lt_of_le hx3 HB4.out.size
      have hs4 : sb < w4.heap.size := Nat.lt_of_lt_of_le hs3 HB4.out.size
      have c0 := cells_at M0.out 0 (.int .i64 t) rfl; have c1 := cells_at M0.out 1 (.int .i64 r) rfl; have c2 := cells_at M0.out 2 (.int .i64 d) rfl; have c3 := cells_at M0.out 3 (.slice A l.length ca) rfl; have c4 := cells_at M0.out 4 (.slice B mb cb) rfl
      have d0 := cells_at M1.out 0 (.slice O ov.length oc) rfl; have d1 := cells_at M1.out 1 (.slice Q bs.length qc) rfl; have d2 := cells_at M1.out 2 (.int .i64 top) rfl
      go_upto_region 8 with (go_at_call 35; (with_reducible refine (HRL.out _ HB4.out).mono ?_); rintro e w5 ⟨rfl, hb5⟩; have HB5 := Lib.hid hb5; clear hb5)
      clear c0 c1 c2 c3 c4 d0 d1 d2 L0 L1
      have N0 := Lib.hid ((HB5.out.block xb hx4).trans M0.out)
      have N1 := Lib.hid ((HB5.out.block sb hs4).trans M1.out)
      have HSB : Hid (∀ q, (q = xb ∨ q = sb) → q < w5.heap.size) := Lib.hid (fun q hq => by rcases hq with e | e <;> (rw [e]; exact Nat.lt_of_lt_of_le (by assumption) HB5.out.size))
      have H35 := Lib.hid (HB4.out.trans (HB5.out.mono HB4.out.size))
      have H3U := Lib.hid (fun (u : World) (h : Below w5.heap.size w5 u) => H35.out.trans (h.mono H35.out.size))
      have c0 := cells_at N0.out 0 (.int .i64 t) rfl; have c1 := cells_at N0.out 1 (.int .i64 r) rfl; have c2 := cells_at N0.out 2 (.int .i64 d) rfl; have c3 := cells_at N0.out 3 (.slice A l.length ca) rfl; have c4 := cells_at N0.out 4 (.slice B mb cb) rfl
      have d0 := cells_at N1.out 0 (.slice O ov.length oc) rfl; have d1 := cells_at N1.out 1 (.slice Q bs.length qc) rfl; have d2 := cells_at N1.out 2 (.int .i64 top) rfl
      have HD := Lib.hid ((Below.refl w5.heap.size w5).drew)
      clear M0 M1 HLN HRL
      refine Lx.wp_region_Y 36 (fun w' => ∃ z, w' = Lx.kept (fun q => q = xb ∨ q = sb) w5.drew z) [11, 19, 20, 25, 31, 32, 35] (by kernel_rfl) (by kernel_rfl) (Lx.kept_of (Lx.Keeps.refl _ _)) ?_
      simp only [List.take_succ_cons, List.take_zero, List.drop_succ_cons, List.drop_zero]
      repeat (refine Lx.wpX_step (fun K hK => ?_); first | (refine Lx.opX_free (by rfl) (by rfl) (by rfl) ?_; go_big_quiet_op; refine hK _ _ ?_; clear hK K) | (refine Lx.opX_nil (by rfl) (by rfl) (by rfl) (by rfl) ?_; refine hK _ _ ?_; clear hK K; simp only [Act.put, List.setIfInBounds_toArray, List.set_cons_succ, List.set_cons_zero]) | (refine Lx.opX_skip (by rfl) ?_; refine hK _ _ ?_; clear hK K; simp only [Act.put, List.setIfInBounds_toArray, List.set_cons_succ, List.set_cons_zero]))
      refine Lx.wpX_step (fun K hK => ?_)
      refine Lx.opX_law (by rfl) (by rfl) ?_
      go_wp2_with (go_at_call 34; (with_reducible refine (HAB.out _ (H3U.out _ HD.out)).mono ?_); rintro e a1 ⟨A1, b1, rfl, hs5, hb5⟩; have hbk := HD.out.trans (hb5.mono HD.out.size); have G1 := Lib.hid hbk; have S1 := Lib.hid hs5; clear hs5; clear hb5 hbk)
      refine Lx.nq_mk (Lx.kept_of (fun y hy => G1.out.block y (HSB.out y hy))) (hK _ _ ?_)
      clear hK K
      repeat (refine Lx.wpX_step (fun K hK => ?_); first | (refine Lx.opX_free (by rfl) (by rfl) (by rfl) ?_; go_big_quiet_op; refine hK _ _ ?_; clear hK K) | (refine Lx.opX_nil (by rfl) (by rfl) (by rfl) (by rfl) ?_; refine hK _ _ ?_; clear hK K; simp only [Act.put, List.setIfInBounds_toArray, List.set_cons_succ, List.set_cons_zero]) | (refine Lx.opX_skip (by rfl) ?_; refine hK _ _ ?_; clear hK K; simp only [Act.put, List.setIfInBounds_toArray, List.set_cons_succ, List.set_cons_zero]))
      refine Lx.wpX_step (fun K hK => ?_)
      refine Lx.opX_law (by rfl) (by rfl) ?_
      go_wp2_with (go_at_call 37; (with_reducible refine (HRA.out _ (H3U.out _ G1.out)).mono ?_); rintro e a2 ⟨A2, b2, rfl, hs5, hb5⟩; have hbk := G1.out.trans (hb5.mono G1.out.size); have G2 := Lib.hid hbk; have S2 := Lib.hid hs5; have S1b := Lib.hid ((S1.out.below hb5).more hb5.size); clear hs5; clear hb5 hbk)
      refine Lx.nq_mk (Lx.kept_of (fun y hy => G2.out.block y (HSB.out y hy))) (hK _ _ ?_)
      clear hK K
      repeat (refine Lx.wpX_step (fun K hK => ?_); first | (refine Lx.opX_free (by rfl) (by rfl) (by rfl) ?_; go_big_quiet_op; refine hK _ _ ?_; clear hK K) | (refine Lx.opX_nil (by rfl) (by rfl) (by rfl) (by rfl) ?_; refine hK _ _ ?_; clear hK K; simp only [Act.put, List.setIfInBounds_toArray, List.set_cons_succ, List.set_cons_zero]) | (refine Lx.opX_skip (by rfl) ?_; refine hK _ _ ?_; clear hK K; simp only [Act.put, List.setIfInBounds_toArray, List.set_cons_succ, List.set_cons_zero]))
      refine Lx.wpX_step (fun K hK => ?_)
      refine Lx.opX_law (by rfl) (by rfl) ?_
      go_wp2_with (go_at_call 36; (with_reducible refine (sameints_c A1 A2 b1 b2 zs (by omega) _ S1b.out S2.out).mono ?_); rintro e a3 ⟨rfl, hb5⟩; have hbk := G2.out.trans (hb5.mono G2.out.size); have G3 := Lib.hid hbk;  clear hb5 hbk)
      refine Lx.nq_mk (Lx.kept_of (fun y hy => G3.out.block y (HSB.out y hy))) (hK _ _ ?_)
      clear hK K
      repeat (refine Lx.wpX_step (fun K hK => ?_); first | (refine Lx.opX_free (by rfl) (by rfl) (by rfl) ?_; go_big_quiet_op; refine hK _ _ ?_; clear hK K) | (refine Lx.opX_nil (by rfl) (by rfl) (by rfl) (by rfl) ?_; refine hK _ _ ?_; clear hK K; simp only [Act.put, List.setIfInBounds_toArray, List.set_cons_succ, List.set_cons_zero]) | (refine Lx.opX_skip (by rfl) ?_; refine hK _ _ ?_; clear hK K; simp only [Act.put, List.setIfInBounds_toArray, List.set_cons_succ, List.set_cons_zero]))
      refine Lx.wpX_step (fun K hK => ?_)
      refine Lx.opX_law (by rfl) (by rfl) ?_
      go_wp2_with (go_at_call 38; (with_reducible refine (HWN.out _ (H3U.out _ G3.out)).mono ?_); rintro e a4 ⟨A4, b4, rfl, hs5, hb5⟩; have hbk := G3.out.trans (hb5.mono G3.out.size); have G4 := Lib.hid hbk; have S4 := Lib.hid hs5; clear hs5; clear hb5 hbk)
      refine Lx.nq_mk (Lx.kept_of (fun y hy => G4.out.block y (HSB.out y hy))) (hK _ _ ?_)
      clear hK K
      repeat (refine Lx.wpX_step (fun K hK => ?_); first | (refine Lx.opX_free (by rfl) (by rfl) (by rfl) ?_; go_big_quiet_op; refine hK _ _ ?_; clear hK K) | (refine Lx.opX_nil (by rfl) (by rfl) (by rfl) (by rfl) ?_; refine hK _ _ ?_; clear hK K; simp only [Act.put, List.setIfInBounds_toArray, List.set_cons_succ, List.set_cons_zero]) | (refine Lx.opX_skip (by rfl) ?_; refine hK _ _ ?_; clear hK K; simp only [Act.put, List.setIfInBounds_toArray, List.set_cons_succ, List.set_cons_zero]))
      refine Lx.wpX_step (fun K hK => ?_)
      refine Lx.opX_law (by rfl) (by rfl) ?_
      go_wp2_with (go_at_call 39; (with_reducible refine (HRW.out _ (H3U.out _ G4.out)).mono ?_); rintro e a5 ⟨A5, b5, rfl, hs5, hb5⟩; have hbk := G4.out.trans (hb5.mono G4.out.size); have G5 := Lib.hid hbk; have S5 := Lib.hid hs5; have S4b := Lib.hid ((S4.out.below hb5).more hb5.size); clear hs5; clear hb5 hbk)
      refine Lx.nq_mk (Lx.kept_of (fun y hy => G5.out.block y (HSB.out y hy))) (hK _ _ ?_)
      clear hK K
      repeat (refine Lx.wpX_step (fun K hK => ?_); first | (refine Lx.opX_free (by rfl) (by rfl) (by rfl) ?_; go_big_quiet_op; refine hK _ _ ?_; clear hK K) | (refine Lx.opX_nil (by rfl) (by rfl) (by rfl) (by rfl) ?_; refine hK _ _ ?_; clear hK K; simp only [Act.put, List.setIfInBounds_toArray, List.set_cons_succ, List.set_cons_zero]) | (refine Lx.opX_skip (by rfl) ?_; refine hK _ _ ?_; clear hK K; simp only [Act.put, List.setIfInBounds_toArray, List.set_cons_succ, List.set_cons_zero]))
      refine Lx.wpX_step (fun K hK => ?_)
      refine Lx.opX_law (by rfl) (by rfl) ?_
      go_wp2_with (go_at_call 36; (with_reducible refine (sameints_c A4 A5 b4 b5 vs (by omega) _ S4b.out S5.out).mono ?_); rintro e a6 ⟨rfl, hb5⟩; have hbk := G5.out.trans (hb5.mono G5.out.size); have G6 := Lib.hid hbk;  clear hb5 hbk)
      refine Lx.nq_mk (Lx.kept_of (fun y hy => G6.out.block y (HSB.out y hy))) (hK _ _ ?_)
      clear hK K
      repeat (refine Lx.wpX_step (fun K hK => ?_); first | (refine Lx.opX_free (by rfl) (by rfl) (by rfl) ?_; go_big_quiet_op; refine hK _ _ ?_; clear hK K) | (refine Lx.opX_nil (by rfl) (by rfl) (by rfl) (by rfl) ?_; refine hK _ _ ?_; clear hK K; simp only [Act.put, List.setIfInBounds_toArray, List.set_cons_succ, List.set_cons_zero]) | (refine Lx.opX_skip (by rfl) ?_; refine hK _ _ ?_; clear hK K; simp only [Act.put, List.setIfInBounds_toArray, List.set_cons_succ, List.set_cons_zero]))
      refine Lx.wpX_step (fun K hK => ?_)
      refine Lx.opX_law (by rfl) (by rfl) ?_
      go_wp2_with (go_at_call 32; (with_reducible refine (HL.out _).mono ?_); rintro e a7 ⟨rfl, hb5⟩; have hbk := G6.out.trans (hb5.mono G6.out.size); have G7 := Lib.hid hbk;  clear hb5 hbk)
      refine Lx.nq_mk (Lx.kept_of (fun y hy => G7.out.block y (HSB.out y hy))) (hK _ _ ?_)
      clear hK K
      repeat (refine Lx.wpX_step (fun K hK => ?_); first | (refine Lx.opX_free (by rfl) (by rfl) (by rfl) ?_; go_big_quiet_op; refine hK _ _ ?_; clear hK K) | (refine Lx.opX_nil (by rfl) (by rfl) (by rfl) (by rfl) ?_; refine hK _ _ ?_; clear hK K; simp only [Act.put, List.setIfInBounds_toArray, List.set_cons_succ, List.set_cons_zero]) | (refine Lx.opX_skip (by rfl) ?_; refine hK _ _ ?_; clear hK K; simp only [Act.put, List.setIfInBounds_toArray, List.set_cons_succ, List.set_cons_zero]))
      refine Lx.wpX_nil ?_
      go_wp2_with fail
      go_ret
      exact ⟨by simp, HW3.out.trans ((H3U.out _ G7.out).mono HW3.out.size)⟩
end Go.Proofs.YtpchhfhmopmagaaGreat.Le

/- What all rules of borrowing share (pure). -/
namespace Go.Proofs.YtpchhfhmopmagaaGreat.Le
open Go.RowKit Go.Maps Go.Proofs.YtpchhfhmopmagaaGreat.Wd Go.Proofs.YtpchhfhmopmagaaGreat.Li Go.Proofs.YtpchhfhmopmagaaGreat.Mp Go.Proofs.YtpchhfhmopmagaaGreat.Tp Go.Proofs.YtpchhfhmopmagaaGreat.Tr Go.Proofs.YtpchhfhmopmagaaGreat.Cl Go.Proofs.YtpchhfhmopmagaaGreat.So Go.Proofs.YtpchhfhmopmagaaGreat.Sw Go.Proofs.YtpchhfhmopmagaaGreat.Pa Go.Proofs.YtpchhfhmopmagaaGreat.Cf Go.Proofs.YtpchhfhmopmagaaGreat.Fi

variable {l : List Cls}
theorem nodup_way {l : List Cls} (F0 : Fit l) (a : Int) : ∀ (s p : List Int), wids l a = p ++ s → s.Nodup
  | [], _, _ => List.nodup_nil
  | i :: t, p, h => by
    refine List.nodup_cons.2 ⟨fun hi => ?_, nodup_way F0 a t (p ++ [i]) (by rw [h]; simp)⟩
    obtain ⟨p', t', e⟩ := List.append_of_mem hi
    have h1 := wids_tail F0 p a i t h
    have h2 := wids_tail F0 (p ++ i :: p') a i t' (by rw [h, e]; simp)
    have h3 : i :: t = i :: t' := h1.symm.trans h2
    have h4 := congrArg List.length h3
    rw [e] at h4
    simp at h4
    omega
theorem lend_above (R : Tp.Tree l) {y leaf : Int} (h : y ∈ lendS l leaf) : underS l leaf y = true ∧ y ≠ leaf := by
  unfold lendS pars at h
  obtain ⟨x, hx, rfl⟩ := List.mem_map.1 h
  have hxw := (List.takeWhile_prefix goes).subset hx
  have hg := List.all_eq_true.1 (List.all_takeWhile (p := goes) (l := way l leaf)) x hx
  have hp0 : x.1.parent ≠ 0 := by
    unfold goes at hg
    intro e
    rw [e] at hg; simp at hg
  obtain ⟨k, hk⟩ := List.getElem?_of_mem hxw
  obtain ⟨_, hd⟩ := way_next (.inr R) k leaf x hk
  have hpi := R.root.par x.1 (at_mem x.2).1 hp0
  obtain ⟨c, hc⟩ : ∃ c, at? l x.1.parent = some c := by
    cases ha : at? l x.1.parent with
    | none => exact absurd hpi (at_none.1 ha)
    | some c => exact ⟨c, rfl⟩
  have hci := (at_mem hc).2
  have hc2 : at? l c.id = some c := by rw [hci]; exact hc
  rw [way_some (.inr R) hc hc2] at hd
  have hk1 : (way l leaf)[k + 1]? = some ⟨c, hc2⟩ := by
    have := congrArg (fun (z : List (Ci l)) => z[0]?) hd
    simpa using this
  have hw1 : (wids l leaf)[k + 1]? = some x.1.parent := by
    unfold wids; rw [List.getElem?_map, hk1]; simp [hci]
  refine ⟨decide_eq_true (List.mem_of_getElem? hw1), fun e => ?_⟩
  have hn := nodup_way (.inr R) leaf _ [] rfl
  have hw0 : (wids l leaf)[0]? = some leaf := by
    cases ha : at? l leaf with
    | none => rw [wids_none ha] at hw1; simp at hw1
    | some c0 => rw [wids_some (.inr R) ha]; rfl
  rw [e] at hw1
  have h0 := (List.getElem?_eq_some_iff.1 hw0)
  have h1 := (List.getElem?_eq_some_iff.1 hw1)
  obtain ⟨l0, e0⟩ := h0
  obtain ⟨l1, e1⟩ := h1
  have := (List.getElem_inj hn).1 (e0.trans e1.symm)
  omega
theorem find_mono {p q : Int → Bool} {zs : List Int} (h : ∀ x, p x = true → q x = true) (hp : (zs.find? p).isSome = true) : (zs.find? q).isSome = true := by
  rw [List.find?_isSome] at hp ⊢
  obtain ⟨x, hx, hpx⟩ := hp
  exact ⟨x, hx, h x hpx⟩
theorem lets_higher {r top m : Int} (hm : 0 ≤ m) {ov bs : List Int} {leaf by_ : Int} (h : letsB l r top ov bs leaf by_ = true) : letsB l r (top + m) ov bs leaf by_ = true := by
  unfold letsB at h ⊢
  by_cases h1 : r = 1
  · rw [if_pos h1] at h ⊢
    have := of_decide_eq_true h
    exact decide_eq_true (by omega)
  · rw [if_neg h1] at h ⊢; exact h
theorem lender_mono {r r2 top top2 : Int} {ov bs : List Int} {leaf : Int} (h : ∀ y, letsB l r top ov bs leaf y = true → letsB l r2 top2 ov bs leaf y = true) (ho : (lenderS l r top ov bs leaf).isSome = true) : (lenderS l r2 top2 ov bs leaf).isSome = true := by
  unfold lenderS at ho ⊢
  split at ho
  · cases ho
  · rename_i hf
    rw [if_neg hf]
    split at ho
    · rename_i hn
      rw [if_pos hn]; rfl
    · rename_i hn
      rw [if_neg hn]
      refine find_mono (fun x hx => ?_) ho
      unfold okB at hx ⊢
      rw [Bool.and_eq_true] at hx ⊢
      exact ⟨hx.1, h x hx.2⟩
theorem lets_zero {top : Int} {ov bs : List Int} {leaf y : Int} : letsB l 0 top ov bs leaf y = true := by
  unfold letsB; rw [if_neg (by decide), if_neg (by decide)]
/-- what the law asks of a leaf -/
theorem lender_over (R : Tp.Tree l) {r top : Int} {ov bs : List Int} {leaf y : Int} (ho : decide (leaf ∈ ov) = true) (h : lenderS l r top ov bs leaf = some y) : decide (y ∈ ov) = false ∧ underS l leaf y = true ∧ (y == leaf) = false := by
  unfold lenderS at h
  split at h
  · cases h
  · rw [if_neg (fun hn => hn (of_decide_eq_true ho))] at h
    have hp := List.find?_some h
    have hm := List.mem_of_find?_eq_some h
    obtain ⟨h1, h2⟩ := lend_above R hm
    unfold okB at hp
    rw [Bool.and_eq_true] at hp
    refine ⟨by simpa using hp.1, h1, by rw [beq_eq_false_iff_ne]; exact h2⟩
def waitB (ov bs : List Int) (y : Int) : Bool := !decide (y ∈ ov) && decide (y ∈ bs)
theorem able_some {r top : Int} {ov bs : List Int} (h : (leavesS l).any (waitB ov bs) = true) : 0 < (ableS l r top ov bs).length := by
  obtain ⟨y, hy, hw⟩ := List.any_eq_true.1 h
  unfold waitB at hw
  rw [Bool.and_eq_true] at hw
  refine List.length_pos_of_mem (a := y) ?_
  unfold ableS
  refine List.mem_filter.2 ⟨hy, ?_⟩
  unfold ableB
  rw [lender_own (leaf_mem_is hy) (by simpa using hw.1), hw.2]; rfl
theorem conf_free {t r d : Int} {fs : List F} (h : chkC t r d l fs = 0) : chkC t 0 d l fs = 0 := by
  unfold chkC at h ⊢
  split at h
  · cases h
  · rename_i h1
    rw [if_neg h1]
    split at h
    · cases h
    · rw [if_neg (by omega)]; exact h
end Go.Proofs.YtpchhfhmopmagaaGreat.Le

/- The law LendRules. -/
namespace Go.Proofs.YtpchhfhmopmagaaGreat.Le
open Go.RowKit Go.Maps Go.Proofs.YtpchhfhmopmagaaGreat.Fl Go.Proofs.YtpchhfhmopmagaaGreat.Wd Go.Proofs.YtpchhfhmopmagaaGreat.Li Go.Proofs.YtpchhfhmopmagaaGreat.Mp Go.Proofs.YtpchhfhmopmagaaGreat.Tp Go.Proofs.YtpchhfhmopmagaaGreat.Tr Go.Proofs.YtpchhfhmopmagaaGreat.Cl Go.Proofs.YtpchhfhmopmagaaGreat.So Go.Proofs.YtpchhfhmopmagaaGreat.Sw Go.Proofs.YtpchhfhmopmagaaGreat.Pa Go.Proofs.YtpchhfhmopmagaaGreat.Cf Go.Proofs.YtpchhfhmopmagaaGreat.Fi Go.Proofs.YtpchhfhmopmagaaGreat.Ga Go.Proofs.YtpchhfhmopmagaaGreat.Qu Go.Proofs.YtpchhfhmopmagaaGreat.Sr
attribute [local go_sem] run_store_float

theorem wait_skip {ov bs : List Int} {y : Int} (h : decide (y ∈ ov) = true) : waitB ov bs y = false := by unfold waitB; rw [h]; rfl
theorem wait_is {ov bs : List Int} {y : Int} {q : Bool} (h : decide (y ∈ ov) = false) (hq : decide (y ∈ bs) = q) : waitB ov bs y = q := by unfold waitB; rw [h, hq]; rfl
theorem any_snoc {p : Int → Bool} {xs : List Int} {k : Nat} {x : Int} (h : xs[k]? = some x) : (xs.take (k + 1)).any p = ((xs.take k).any p || p x) := by
  rw [List.take_add_one, h, List.any_append]; simp
set_option maxRecDepth 20000 in
set_option maxHeartbeats 4000000 in
theorem lendrules_t (t r d : Int) (hdw : (Lit.int .i64 d).wf = true) (A : Option Addr) (na ca : Nat) (B : Option Addr) (mb cb : Nat) (l : List Cls) (fs : List F) (hs : ∀ x ∈ l, x.share < 18446744073709551616) (hcap : na ≤ ca) (O : Option Addr) (oc : Nat) (ov : List Int) (Q : Option Addr) (qc : Nat) (bs : List Int) (top : Int) (hwt : (Lit.int .i64 top).wf = true) (m : Int) (hm : 0 ≤ m ∧ m ≤ 255) (w : World) (hI : Holds w.heap.size w (.slice A na ca) l) (hF : HoldsF w.heap.size w (.slice B mb cb) fs) (hO : Sl w w.heap.size 1 O ov.length (St.I ov)) (hQ : Sl w w.heap.size 1 Q bs.length (St.I bs)) :
    Calls Tryz.prog 7 #[cfV t r d (.slice A na ca) (.slice B mb cb), .agg #[.slice O ov.length oc, .slice Q bs.length qc, .int .i64 top], .int .u8 m] w fun e w' => e = .returned (.bool true) ∧ Below w.heap.size w w' := by
  have HL := Lib.hid lives27
  have htl : -9223372036854775808 ≤ top := by have := hwt; simp [Lit.wf, IntKind.min, IntKind.max, IntKind.bits, IntKind.signed] at this; omega
  have HFW := Lib.hid (fun u => few_c t r d A na ca B mb cb u)
  have HFL := Lib.hid (fun u => fewl_c O ov.length oc Q bs.length qc top u)
  have HI := Lib.hid hI; have HF := Lib.hid hF; have HO := Lib.hid hO; have HQ := Lib.hid hQ
  have hnl : na = l.length := (holds_parts hI).1
  have hml : mb = fs.length := (Lies.parts hF).1
  have hE0 : ((w.alloc (.cells #[.int .i64 t, .int .i64 r, .int .i64 d, .slice A na ca, .slice B mb cb] 25)).alloc (.cells #[.slice O ov.length oc, .slice Q bs.length qc, .int .i64 top] 62)).heap[w.heap.size]? = some (.cells #[.int .i64 t, .int .i64 r, .int .i64 d, .slice A na ca, .slice B mb cb] 25 (0, 0)) := (Below.heap_alloc _ _ _ (by simp)).trans (heap_alloc_new _ _)
  have hE1 : ((w.alloc (.cells #[.int .i64 t, .int .i64 r, .int .i64 d, .slice A na ca, .slice B mb cb] 25)).alloc (.cells #[.slice O ov.length oc, .slice Q bs.length qc, .int .i64 top] 62)).heap[w.heap.size + 1]? = some (.cells #[.slice O ov.length oc, .slice Q bs.length qc, .int .i64 top] 62 (0, 0)) := by
    have h := heap_alloc_new (w.alloc (.cells #[.int .i64 t, .int .i64 r, .int .i64 d, .slice A na ca, .slice B mb cb] 25)) (.cells #[.slice O ov.length oc, .slice Q bs.length qc, .int .i64 top] 62)
    rw [show (w.alloc (.cells #[.int .i64 t, .int .i64 r, .int .i64 d, .slice A na ca, .slice B mb cb] 25)).heap.size = w.heap.size + 1 by simp] at h; exact h
  have hEb : Below w.heap.size w ((w.alloc (.cells #[.int .i64 t, .int .i64 r, .int .i64 d, .slice A na ca, .slice B mb cb] 25)).alloc (.cells #[.slice O ov.length oc, .slice Q bs.length qc, .int .i64 top] 62)) := ((Below.refl _ w).alloc (Nat.le_refl _) _).alloc (by simp) _
  have hEz : ((w.alloc (.cells #[.int .i64 t, .int .i64 r, .int .i64 d, .slice A na ca, .slice B mb cb] 25)).alloc (.cells #[.slice O ov.length oc, .slice Q bs.length qc, .int .i64 top] 62)).heap.size = w.heap.size + 2 := by simp
  have H0 := Lib.hid hE0; have H1 := Lib.hid hE1; have HB0 := Lib.hid hEb; have HZ0 := Lib.hid hEz
  clear hI hF hO hQ hE0 hE1 hEb hEz
  cases hfew : (decide (na ≤ 70) && decide (mb ≤ 70)) with
  | false =>
    rw [hfew] at HFW
    clear hfew hnl hml
    go_enter Tryz.func7, Tryz.ntmps7
    go_upto_region 1 with fail
    generalize World.alloc (World.alloc w _) _ = U at *
    obtain ⟨xb, hxb⟩ : ∃ xb, xb = w.heap.size := ⟨_, rfl⟩
    obtain ⟨sb, hsb⟩ : ∃ sb, sb = w.heap.size + 1 := ⟨_, rfl⟩
    have hxU : xb < U.heap.size := by have := HZ0.out; omega
    have hsU : sb < U.heap.size := by have := HZ0.out; omega
    rw [← hsb] at H1 ⊢
    rw [← hxb] at H0 ⊢
    clear hxb hsb HZ0
    have c0 := cells_at H0.out 0 (.int .i64 t) rfl; have c1 := cells_at H0.out 1 (.int .i64 r) rfl; have c2 := cells_at H0.out 2 (.int .i64 d) rfl; have c3 := cells_at H0.out 3 (.slice A na ca) rfl; have c4 := cells_at H0.out 4 (.slice B mb cb) rfl
    go_wp2_with (first
      | (go_at_call 10; (with_reducible refine (HFW.out _).mono ?_); rintro e w1 ⟨rfl, hb1⟩; have HB1 := Lib.hid hb1;  clear hb1)
      | (go_at_call 32; (with_reducible refine (HL.out _).mono ?_); rintro e w3 ⟨rfl, hb3⟩; have HB3 := Lib.hid hb3; clear hb3))
    go_ret
    exact ⟨rfl, HB0.out.trans ((HB1.out.trans (HB3.out.mono HB1.out.size)).mono HB0.out.size)⟩
  | true =>
    rw [hfew] at HFW
    have hf2 : na ≤ 70 ∧ mb ≤ 70 := by simpa using hfew
    have h70 : l.length ≤ 70 := by omega
    have m70 : fs.length ≤ 70 := by omega
    clear hfew hf2 hml
    cases hfl : (decide (ov.length ≤ 70) && decide (bs.length ≤ 70)) with
    | false =>
      rw [hfl] at HFL
      clear hfl hnl
      go_enter Tryz.func7, Tryz.ntmps7
      go_upto_region 1 with fail
      generalize World.alloc (World.alloc w _) _ = U at *
      obtain ⟨xb, hxb⟩ : ∃ xb, xb = w.heap.size := ⟨_, rfl⟩
      obtain ⟨sb, hsb⟩ : ∃ sb, sb = w.heap.size + 1 := ⟨_, rfl⟩
      have hxU : xb < U.heap.size := by have := HZ0.out; omega
      have hsU : sb < U.heap.size := by have := HZ0.out; omega
      rw [← hsb] at H1 ⊢
      rw [← hxb] at H0 ⊢
      clear hxb hsb HZ0
      have c0 := cells_at H0.out 0 (.int .i64 t) rfl; have c1 := cells_at H0.out 1 (.int .i64 r) rfl; have c2 := cells_at H0.out 2 (.int .i64 d) rfl; have c3 := cells_at H0.out 3 (.slice A na ca) rfl; have c4 := cells_at H0.out 4 (.slice B mb cb) rfl
      have d0 := cells_at H1.out 0 (.slice O ov.length oc) rfl; have d1 := cells_at H1.out 1 (.slice Q bs.length qc) rfl; have d2 := cells_at H1.out 2 (.int .i64 top) rfl
      go_wp2_with (first
        | (go_at_call 10; (with_reducible refine (HFW.out _).mono ?_); rintro e w1 ⟨rfl, hb1⟩; have HB1 := Lib.hid hb1; have kx := (hb1.block xb hxU).trans H0.out; have ky := (hb1.block sb hsU).trans H1.out; have c0 := cells_at kx 0 (.int .i64 t) rfl; have c1 := cells_at kx 1 (.int .i64 r) rfl; have c2 := cells_at kx 2 (.int .i64 d) rfl; have c3 := cells_at kx 3 (.slice A na ca) rfl; have c4 := cells_at kx 4 (.slice B mb cb) rfl; have d0 := cells_at ky 0 (.slice O ov.length oc) rfl; have d1 := cells_at ky 1 (.slice Q bs.length qc) rfl; have d2 := cells_at ky 2 (.int .i64 top) rfl; clear kx ky; clear hb1)
        | (go_at_call 31; (with_reducible refine (HFL.out _).mono ?_); rintro e w2 ⟨rfl, hb2⟩; have HB2 := Lib.hid hb2; clear hb2)
        | (go_at_call 32; (with_reducible refine (HL.out _).mono ?_); rintro e w3 ⟨rfl, hb3⟩; have HB3 := Lib.hid hb3; clear hb3))
      go_ret
      exact ⟨rfl, HB0.out.trans ((HB1.out.trans ((HB2.out.trans (HB3.out.mono HB2.out.size)).mono HB1.out.size)).mono HB0.out.size)⟩
    | true =>
      rw [hfl] at HFL
      have hf3 : ov.length ≤ 70 ∧ bs.length ≤ 70 := by simpa using hfl
      obtain ⟨hol, hql⟩ := hf3
      clear hfl
      subst hnl
      by_cases htop : (1073741824 : Int) < top
      · have e3 : decide ((1073741824 : Int) < top) = true := decide_eq_true htop
        clear htop hwt htl
        go_enter Tryz.func7, Tryz.ntmps7
        go_upto_region 1 with fail
        generalize World.alloc (World.alloc w _) _ = U at *
        obtain ⟨xb, hxb⟩ : ∃ xb, xb = w.heap.size := ⟨_, rfl⟩
        obtain ⟨sb, hsb⟩ : ∃ sb, sb = w.heap.size + 1 := ⟨_, rfl⟩
        have hxU : xb < U.heap.size := by have := HZ0.out; omega
        have hsU : sb < U.heap.size := by have := HZ0.out; omega
        rw [← hsb] at H1 ⊢
        rw [← hxb] at H0 ⊢
        clear hxb hsb HZ0
        have c0 := cells_at H0.out 0 (.int .i64 t) rfl; have c1 := cells_at H0.out 1 (.int .i64 r) rfl; have c2 := cells_at H0.out 2 (.int .i64 d) rfl; have c3 := cells_at H0.out 3 (.slice A l.length ca) rfl; have c4 := cells_at H0.out 4 (.slice B mb cb) rfl
        have d0 := cells_at H1.out 0 (.slice O ov.length oc) rfl; have d1 := cells_at H1.out 1 (.slice Q bs.length qc) rfl; have d2 := cells_at H1.out 2 (.int .i64 top) rfl
        go_wp2_with (first
          | (go_at_call 10; (with_reducible refine (HFW.out _).mono ?_); rintro e w1 ⟨rfl, hb1⟩; have HB1 := Lib.hid hb1; have kx := (hb1.block xb hxU).trans H0.out; have ky := (hb1.block sb hsU).trans H1.out; have hx1 := Nat.lt_of_lt_of_le hxU hb1.size; have hs1 := Nat.lt_of_lt_of_le hsU hb1.size; have KX1 := Lib.hid kx; have KY1 := Lib.hid ky; have c0 := cells_at kx 0 (.int .i64 t) rfl; have c1 := cells_at kx 1 (.int .i64 r) rfl; have c2 := cells_at kx 2 (.int .i64 d) rfl; have c3 := cells_at kx 3 (.slice A l.length ca) rfl; have c4 := cells_at kx 4 (.slice B mb cb) rfl; have d0 := cells_at ky 0 (.slice O ov.length oc) rfl; have d1 := cells_at ky 1 (.slice Q bs.length qc) rfl; have d2 := cells_at ky 2 (.int .i64 top) rfl; clear kx ky hb1)
          | (go_at_call 31; (with_reducible refine (HFL.out _).mono ?_); rintro e w2 ⟨rfl, hb2⟩; have HB2 := Lib.hid hb2; have kx := (hb2.block xb hx1).trans KX1.out; have ky := (hb2.block sb hs1).trans KY1.out; have c0 := cells_at kx 0 (.int .i64 t) rfl; have c1 := cells_at kx 1 (.int .i64 r) rfl; have c2 := cells_at kx 2 (.int .i64 d) rfl; have c3 := cells_at kx 3 (.slice A l.length ca) rfl; have c4 := cells_at kx 4 (.slice B mb cb) rfl; have d0 := cells_at ky 0 (.slice O ov.length oc) rfl; have d1 := cells_at ky 1 (.slice Q bs.length qc) rfl; have d2 := cells_at ky 2 (.int .i64 top) rfl; clear kx ky hb2)
          | (go_at_call 32; (with_reducible refine (HL.out _).mono ?_); rintro e w3 ⟨rfl, hb3⟩; have HB3 := Lib.hid hb3; clear hb3))
        go_ret
        exact ⟨rfl, HB0.out.trans ((HB1.out.trans ((HB2.out.trans (HB3.out.mono HB2.out.size)).mono HB1.out.size)).mono HB0.out.size)⟩
      have htop2 : top ≤ 1073741824 := by omega
      have e3 : decide ((1073741824 : Int) < top) = false := decide_eq_false htop
      clear hwt
      go_enter Tryz.func7, Tryz.ntmps7
      go_upto_region 1 with fail
      generalize World.alloc (World.alloc w _) _ = U at *
      obtain ⟨xb, hxb⟩ : ∃ xb, xb = w.heap.size := ⟨_, rfl⟩
      obtain ⟨sb, hsb⟩ : ∃ sb, sb = w.heap.size + 1 := ⟨_, rfl⟩
      have hxU : xb < U.heap.size := by have := HZ0.out; omega
      have hsU : sb < U.heap.size := by have := HZ0.out; omega
      rw [← hsb] at H1 ⊢
      rw [← hxb] at H0 ⊢
      clear hxb hsb HZ0
      have c0 := cells_at H0.out 0 (.int .i64 t) rfl; have c1 := cells_at H0.out 1 (.int .i64 r) rfl; have c2 := cells_at H0.out 2 (.int .i64 d) rfl; have c3 := cells_at H0.out 3 (.slice A l.length ca) rfl; have c4 := cells_at H0.out 4 (.slice B mb cb) rfl
      have d0 := cells_at H1.out 0 (.slice O ov.length oc) rfl; have d1 := cells_at H1.out 1 (.slice Q bs.length qc) rfl; have d2 := cells_at H1.out 2 (.int .i64 top) rfl
      go_upto_region 3 with (first
        | (go_at_call 10; (with_reducible refine (HFW.out _).mono ?_); rintro e w1 ⟨rfl, hb1⟩; have HB1 := Lib.hid hb1; have kx := (hb1.block xb hxU).trans H0.out; have ky := (hb1.block sb hsU).trans H1.out; have hx1 := Nat.lt_of_lt_of_le hxU hb1.size; have hs1 := Nat.lt_of_lt_of_le hsU hb1.size; have KX1 := Lib.hid kx; have KY1 := Lib.hid ky; have c0 := cells_at kx 0 (.int .i64 t) rfl; have c1 := cells_at kx 1 (.int .i64 r) rfl; have c2 := cells_at kx 2 (.int .i64 d) rfl; have c3 := cells_at kx 3 (.slice A l.length ca) rfl; have c4 := cells_at kx 4 (.slice B mb cb) rfl; have d0 := cells_at ky 0 (.slice O ov.length oc) rfl; have d1 := cells_at ky 1 (.slice Q bs.length qc) rfl; have d2 := cells_at ky 2 (.int .i64 top) rfl; clear kx ky hb1)
        | (go_at_call 31; (with_reducible refine (HFL.out _).mono ?_); rintro e w2 ⟨rfl, hb2⟩; have HB2 := Lib.hid hb2; have kx := (hb2.block xb hx1).trans KX1.out; have ky := (hb2.block sb hs1).trans KY1.out; have c0 := cells_at kx 0 (.int .i64 t) rfl; have c1 := cells_at kx 1 (.int .i64 r) rfl; have c2 := cells_at kx 2 (.int .i64 d) rfl; have c3 := cells_at kx 3 (.slice A l.length ca) rfl; have c4 := cells_at kx 4 (.slice B mb cb) rfl; have d0 := cells_at ky 0 (.slice O ov.length oc) rfl; have d1 := cells_at ky 1 (.slice Q bs.length qc) rfl; have d2 := cells_at ky 2 (.int .i64 top) rfl; clear kx ky hb2))
      have HU2 := Lib.hid (HB1.out.trans (HB2.out.mono HB1.out.size))
      have HW2 := Lib.hid (HB0.out.trans (HU2.out.mono HB0.out.size))
      have hx2 : xb < w2.heap.size := Nat.lt_of_lt_of_le hxU HU2.out.size
      have hs2 : sb < w2.heap.size := Nat.lt_of_lt_of_le hsU HU2.out.size
      clear c0 c1 c2 c3 c4 d0 d1 d2
      have K0 := Lib.hid ((HU2.out.block xb hxU).trans H0.out)
      have K1 := Lib.hid ((HU2.out.block sb hsU).trans H1.out)
      clear H0 H1 KX1 KY1 hx1 hs1
      have HCO := Lib.hid (compile_c t r d hdw A l.length ca B mb cb l fs hs (by omega) (by omega) hcap w2 ((HI.out.below HW2.out).up HW2.out.size) (Lies.up HW2.out.size (Lies.below HW2.out HF.out)))
      have HCF := Lib.hid (fun (u : World) (h : Below w.heap.size w u) => compile_c t 0 d hdw A l.length ca B mb cb l fs hs (by omega) (by omega) hcap u ((HI.out.below h).up h.size) (Lies.up h.size (Lies.below h HF.out)))
      unfold CompCOk cfV at HCO HCF
      have c0 := cells_at K0.out 0 (.int .i64 t) rfl; have c1 := cells_at K0.out 1 (.int .i64 r) rfl; have c2 := cells_at K0.out 2 (.int .i64 d) rfl; have c3 := cells_at K0.out 3 (.slice A l.length ca) rfl; have c4 := cells_at K0.out 4 (.slice B mb cb) rfl
      by_cases hch : chkC t r d l fs = 0
      rotate_left
      · have hrn : (chkC t r d l fs != 0) = true := by rw [bne_iff_ne]; exact hch
        have HRN := Lib.hid hch
        clear hch HCF
        generalize hrx : chkC t r d l fs = rx at *
        clear hrx
        go_wp2_with (first
          | (go_at_call 18; (with_reducible refine (HCO.out).mono ?_); rintro e w4 (⟨_, rfl, hb3⟩ | ⟨h0, _⟩); rotate_left; exact absurd h0 HRN.out; have HB4 := Lib.hid hb3; clear hb3)
          | (go_at_call 32; (with_reducible refine (HL.out _).mono ?_); rintro e w3 ⟨rfl, hb3⟩; have HB3 := Lib.hid hb3; clear hb3))
        go_ret
        exact ⟨rfl, HW2.out.trans ((HB4.out.trans (HB3.out.mono HB4.out.size)).mono HW2.out.size)⟩
      have R := chk_tree (chkC_tree hch)
      have HCH := Lib.hid hch; have HCH0 := Lib.hid (conf_free hch); have HR := Lib.hid R
      clear hch R hs
      go_upto_region 6 with (go_at_call 18; (with_reducible refine (HCO.out).mono ?_); rintro e w3 (⟨h0, _⟩ | ⟨_, S, rfl, hS, hle, hb3⟩); exact absurd HCH.out h0; have HS3 := Lib.hid hS; have HB3 := Lib.hid hb3; clear hb3 hS hle)
      have HW3 := Lib.hid (HW2.out.trans (HB3.out.mono HW2.out.size))
      have hx3 : xb < w3.heap.size := Nat.lt_of_lt_of_le hx2 HB3.out.size
      have hs3 : sb < w3.heap.size := Nat.lt_of_lt_of_le hs2 HB3.out.size
      have L0 := Lib.hid ((HB3.out.block xb hx2).trans K0.out)
      have L1 := Lib.hid ((HB3.out.block sb hs2).trans K1.out)
      clear c0 c1 c2 c3 c4 HCO K0 K1
      have c0 := cells_at L0.out 0 (.int .i64 t) rfl; have c1 := cells_at L0.out 1 (.int .i64 r) rfl; have c2 := cells_at L0.out 2 (.int .i64 d) rfl; have c3 := cells_at L0.out 3 (.slice A l.length ca) rfl; have c4 := cells_at L0.out 4 (.slice B mb cb) rfl
      go_upto_region 8 with fail
      have hcn := heap_alloc_new w3 (.cells #[.int .i64 t, .int .i64 0, .int .i64 d, .slice A l.length ca, .slice B mb cb] 25)
      have hcb := HB3.out.alloc HB3.out.size (.cells #[.int .i64 t, .int .i64 0, .int .i64 d, .slice A l.length ca, .slice B mb cb] 25)
      have hc3 := (Below.refl w3.heap.size w3).alloc (Nat.le_refl _) (.cells #[.int .i64 t, .int .i64 0, .int .i64 d, .slice A l.length ca, .slice B mb cb] 25)
      generalize World.alloc w3 _ = u4 at *
      have HC34 := Lib.hid hc3
      have HW4 := Lib.hid (HW3.out.trans (hc3.mono HW3.out.size))
      clear c0 c1 c2 c3 c4 hcb
      have c0 := cells_at hcn 0 (.int .i64 t) rfl; have c1 := cells_at hcn 1 (.int .i64 0) rfl; have c2 := cells_at hcn 2 (.int .i64 d) rfl; have c3 := cells_at hcn 3 (.slice A l.length ca) rfl; have c4 := cells_at hcn 4 (.slice B mb cb) rfl
      have HCG := Lib.hid (HCF.out u4 HW4.out)
      clear hcn hc3 HCF
      go_upto_region 9 with (go_at_call 18; (with_reducible refine (HCG.out).mono ?_); rintro e w5 (⟨h0, _⟩ | ⟨_, S2, rfl, hS, hle, hb3⟩); exact absurd HCH0.out h0; have HS5 := Lib.hid hS; have HB5 := Lib.hid hb3; clear hb3 hS hle)
      have H35 := Lib.hid (HC34.out.trans (HB5.out.mono HC34.out.size))
      have HW5 := Lib.hid (HW3.out.trans (H35.out.mono HW3.out.size))
      have hs5 : sb < w5.heap.size := Nat.lt_of_lt_of_le hs3 H35.out.size
      have k5 := (H35.out.block sb hs3).trans L1.out
      have N1 := Lib.hid k5
      clear c0 c1 c2 c3 c4 HCG L0 L1
      have d0 := cells_at k5 0 (.slice O ov.length oc) rfl; have d1 := cells_at k5 1 (.slice Q bs.length qc) rfl; have d2 := cells_at k5 2 (.int .i64 top) rfl
      go_upto_region 11 with fail
      have hyn := heap_alloc_new w5 (.cells #[.slice O ov.length oc, .slice Q bs.length qc, .int .i64 (top + m)] 62)
      have hyb := (Below.refl w5.heap.size w5).alloc (Nat.le_refl _) (.cells #[.slice O ov.length oc, .slice Q bs.length qc, .int .i64 (top + m)] 62)
      have hyz : (w5.alloc (.cells #[.slice O ov.length oc, .slice Q bs.length qc, .int .i64 (top + m)] 62)).heap.size = w5.heap.size + 1 := by simp
      generalize World.alloc w5 _ = u6 at *
      obtain ⟨yb, hybd⟩ : ∃ yb, yb = w5.heap.size := ⟨_, rfl⟩
      rw [← hybd] at hyn ⊢
      have hy6 : yb < u6.heap.size := by omega
      have HY6 := Lib.hid hyn; have HB6 := Lib.hid hyb
      clear hybd hyz d0 d1 d2 k5 hyn hyb
      have HW6 := Lib.hid (HW5.out.trans (HB6.out.mono HW5.out.size))
      have H36 := Lib.hid (H35.out.trans (HB6.out.mono H35.out.size))
      have hs6 : sb < u6.heap.size := Nat.lt_of_lt_of_le hs5 HB6.out.size
      have HX6 := Lib.hid ((HB6.out.block sb hs5).trans N1.out)
      have HS6 := Lib.hid ((HS3.out.below H36.out).up H36.out.size)
      have HT6 := Lib.hid ((HS5.out.below HB6.out).up HB6.out.size)
      have hS2 := HS6.out
      obtain ⟨T, Tb, q, A1, c1, A2, c2, hSl, hSc, hTr, _⟩ := hS2
      have s0 := cells_at hSc 0 (.pointer (some ⟨T, 0, none⟩)) rfl
      have HTR := Lib.hid hTr
      have HLV := Lib.hid (tleaves_c T l HR.out u6 hTr)
      unfold ListOk at HLV
      have hll := Nat.le_trans (leaves_len l) HR.out.le
      have HLK := Lib.hid (fun y (hy : y ∈ leavesS l) => leaf_mem_is hy)
      have HWF : Hid (∀ y, y ∈ leavesS l → (Lit.int .i64 y).wf = true) := Lib.hid (fun y hy => Fit.wf (.inr HR.out) (leaf_mem hy))
      have HEND := Lib.hid (@able_some l r top ov bs)
      obtain ⟨zs, hz⟩ : ∃ zs, zs = leavesS l := ⟨_, rfl⟩
      rw [← hz] at HLV hll HLK HWF HEND
      clear hz hSc hTr N1 HS3 HS5 HC34 HB5 HB6
      go_wp2_with (first
        | (go_at_call 19; (with_reducible refine (settree_c _ _ _ s0).mono ?_); rintro e w' ⟨rfl, rfl⟩)
        | (go_at_call 20; (with_reducible refine (HLV.out).mono ?_); rintro e w7 ⟨A7, c7, rfl, hs7, hb7⟩; have HS7 := Lib.hid hs7; have HB7 := Lib.hid hb7; clear hs7 hb7))
      have HW7 := Lib.hid (HW6.out.trans (HB7.out.mono HW6.out.size))
      clear s0 HLV
      go_loopg [14, 65] zs.length (fun kx s14 s65 wr => ∃ (k : Nat) (wv : Bool), s65 = .int .i64 k ∧ s14 = .bool wv ∧ k ≤ zs.length ∧ zs.length - k ≤ kx ∧ Hid (wv = (zs.take k).any (waitB ov bs)) ∧ Hid (Below w7.heap.size w7 wr))
      case atStart => exact ⟨0, false, rfl, rfl, by omega, by omega, Lib.hid rfl, Lib.hid (Below.refl _ _)⟩
      case round =>
        obtain ⟨k, wv, rfl, rfl, hk, hkx, HV, HW⟩ := hrel
        have hwz := HW.out.size
        have HWW := Lib.hid (HW7.out.trans (HW.out.mono HW7.out.size))
        have H6r := Lib.hid (HB7.out.trans (HW.out.mono HB7.out.size))
        have h6z := H6r.out.size
        have KX := Lib.hid ((H6r.out.block sb hs6).trans HX6.out)
        have KY := Lib.hid ((H6r.out.block yb hy6).trans HY6.out)
        have hsr : sb < wr.heap.size := Nat.lt_of_lt_of_le hs6 h6z
        have hyr : yb < wr.heap.size := Nat.lt_of_lt_of_le hy6 h6z
        have hm0 : 0 ≤ m := by omega
        by_cases hlt : k < zs.length
        · have hltz : (k : Int) < (zs.length : Int) := by omega
          obtain ⟨a, u, rfl, hab, hu, hc⟩ := (HS7.out.below HW.out).cell1 (k := k) hlt
          unfold St.I at hu
          simp only [List.getElem?_map] at hu
          obtain ⟨y, hy0, rfl⟩ := Option.map_eq_some_iff.1 hu
          have HY := Lib.hid hy0
          have hyw := HWF.out y (List.mem_of_getElem? hy0)
          have HLF := Lib.hid (HLK.out y (List.mem_of_getElem? hy0))
          clear hu hy0
          have HL1 := Lib.hid (slender_c t r d l fs (by omega) HR.out S O oc ov Q qc bs hol hql top y hyw wr ((HS6.out.below H6r.out).up h6z) ((HO.out.below HWW.out).more HWW.out.size) ((HQ.out.below HWW.out).more HWW.out.size))
          have HL2 := Lib.hid (fun (v : World) (h : Below wr.heap.size wr v) => slender_c t 0 d l fs (by omega) HR.out S2 O oc ov Q qc bs hol hql top y hyw v ((HT6.out.below (H6r.out.trans (h.mono h6z))).up (Nat.le_trans h6z h.size)) ((HO.out.below (HWW.out.trans (h.mono HWW.out.size))).more (HWW.out.trans (h.mono HWW.out.size)).size) ((HQ.out.below (HWW.out.trans (h.mono HWW.out.size))).more (HWW.out.trans (h.mono HWW.out.size)).size))
          have HL3 := Lib.hid (fun (v : World) (h : Below wr.heap.size wr v) => slender_c t r d l fs (by omega) HR.out S O oc ov Q qc bs hol hql (top + m) y hyw v ((HS6.out.below (H6r.out.trans (h.mono h6z))).up (Nat.le_trans h6z h.size)) ((HO.out.below (HWW.out.trans (h.mono HWW.out.size))).more (HWW.out.trans (h.mono HWW.out.size)).size) ((HQ.out.below (HWW.out.trans (h.mono HWW.out.size))).more (HWW.out.trans (h.mono HWW.out.size)).size))
          have HHO := Lib.hid (fun (v : World) (h : Below wr.heap.size wr v) (i : Int) => has_c O oc w.heap.size ov i (by omega) v (HO.out.below (HWW.out.trans (h.mono HWW.out.size))))
          have HHQ := Lib.hid (fun (v : World) (h : Below wr.heap.size wr v) => has_c Q qc w.heap.size bs y (by omega) v (HQ.out.below (HWW.out.trans (h.mono HWW.out.size))))
          have HUN := Lib.hid (fun (v : World) (h : Below wr.heap.size wr v) (i : Int) => under_c l (some ⟨T, 0, none⟩) y i hyw v (.inr ⟨T, rfl, (HTR.out.below (H6r.out.trans (h.mono h6z))).up (Nat.le_trans h6z h.size), HR.out⟩))
          unfold LendOk at HL1 HL2 HL3
          have HM2 := Lib.hid (@lender_mono l r 0 top top ov bs y (fun _ _ => lets_zero))
          have HM3 := Lib.hid (@lender_mono l r r top (top + m) ov bs y (fun _ h => lets_higher hm0 h))
          have HMO := Lib.hid (fun (z : Int) (ho : decide (y ∈ ov) = true) (h : lenderS l r top ov bs y = some z) => lender_over HR.out ho h)
          have HOW := Lib.hid (fun (ho : decide (y ∈ ov) = false) => lender_own (r := r) (top := top) (bs := bs) HLF.out (of_decide_eq_false ho))
          have HSN := Lib.hid (any_snoc (p := waitB ov bs) HY.out)
          rw [← HV.out] at HSN
          generalize hg1 : lenderS l r top ov bs y = o1 at *
          generalize hg2 : lenderS l 0 top ov bs y = o2 at *
          generalize hg3 : lenderS l r (top + m) ov bs y = o3 at *
          clear hg1 hg2 hg3
          obtain ⟨m2, hm2⟩ : ∃ z, z = o2.isSome := ⟨_, rfl⟩
          obtain ⟨m3, hm3⟩ : ∃ z, z = o3.isSome := ⟨_, rfl⟩
          rw [← hm2] at HL2 HM2
          rw [← hm3] at HL3 HM3
          generalize o2.getD 0 = g2 at *
          generalize o3.getD 0 = g3 at *
          clear hm2 hm3
          have d0 := cells_at KX.out 0 (.slice O ov.length oc) rfl; have d1 := cells_at KX.out 1 (.slice Q bs.length qc) rfl; have d2 := cells_at KX.out 2 (.int .i64 top) rfl
          obtain ⟨ho, hho⟩ : ∃ z, z = decide (y ∈ ov) := ⟨_, rfl⟩
          have HHO1 := Lib.hid (fun (v : World) (h : Below wr.heap.size wr v) => HHO.out v h y)
          rw [← hho] at HHO1 HMO HOW
          obtain ⟨hq, hhq⟩ : ∃ z, z = decide (y ∈ bs) := ⟨_, rfl⟩
          rw [← hhq] at HHQ
          have HHO2 := Lib.hid hho.symm
          have HHQ2 := Lib.hid hhq.symm
          clear hho hhq
          cases ho with
          | false =>
            have hoo := HOW.out rfl
            subst hoo
            have hm2 : m2 = true := HM2.out rfl
            have hm3 : m3 = true := HM3.out rfl
            subst hm2 hm3
            simp only [Option.getD_some, Option.isSome_some] at HL1
            have en : (y != y) = false := by simp
            have HWQ := Lib.hid (wait_is HHO2.out HHQ2.out)
            cases wv with
            | true =>
              go_wp2_with (first
                | (go_at_call 33; (with_reducible refine (HL1.out).mono ?_); rintro e v1 ⟨rfl, hb1⟩; have kx := (hb1.block sb hsr).trans KX.out; have d0 := cells_at kx 0 (.slice O ov.length oc) rfl; have d1 := cells_at kx 1 (.slice Q bs.length qc) rfl; have d2 := cells_at kx 2 (.int .i64 top) rfl; have HV1 := Lib.hid hb1; clear hb1 kx)
                | (go_at_call 27; (with_reducible refine (HHO1.out _ HV1.out).mono ?_); rintro e w9 ⟨rfl, hw9⟩; subst w9)
                | (go_at_call 33; (with_reducible refine (HL2.out _ HV1.out).mono ?_); rintro e v2 ⟨rfl, hb2⟩; have hb3 := (HV1.out).trans (hb2.mono (HV1.out).size); have kx := (hb3.block yb hyr).trans KY.out; have y0 := cells_at kx 0 (.slice O ov.length oc) rfl; have y1 := cells_at kx 1 (.slice Q bs.length qc) rfl; have y2 := cells_at kx 2 (.int .i64 (top + m)) rfl; have HV2 := Lib.hid hb3; clear hb2 hb3 kx)
                | (go_at_call 33; (with_reducible refine (HL3.out _ HV2.out).mono ?_); rintro e v3 ⟨rfl, hb2⟩; have hb3 := HV2.out.trans (hb2.mono HV2.out.size); have kx := (hb3.block sb hsr).trans KX.out; have d0 := cells_at kx 0 (.slice O ov.length oc) rfl; have d1 := cells_at kx 1 (.slice Q bs.length qc) rfl; have d2 := cells_at kx 2 (.int .i64 top) rfl; have HV3 := Lib.hid hb3; clear hb2 hb3 kx))
              go_roundg (zs.length - (k + 1))
              case measure => exact Nat.lt_of_lt_of_le (Nat.sub_lt_sub_left hlt (Nat.lt_succ_self k)) hkx
              case rel => exact ⟨k + 1, true, by go_num, by first | rfl | simp, by omega, by omega, Lib.hid (by rw [HSN.out, HWQ.out]; (try simp)), Lib.hid (HW.out.trans (HV3.out.mono hwz))⟩
            | false =>
              go_wp2_with (first
                | (go_at_call 33; (with_reducible refine (HL1.out).mono ?_); rintro e v1 ⟨rfl, hb1⟩; have kx := (hb1.block sb hsr).trans KX.out; have d0 := cells_at kx 0 (.slice O ov.length oc) rfl; have d1 := cells_at kx 1 (.slice Q bs.length qc) rfl; have d2 := cells_at kx 2 (.int .i64 top) rfl; have HV1 := Lib.hid hb1; clear hb1 kx)
                | (go_at_call 27; (with_reducible refine (HHO1.out _ HV1.out).mono ?_); rintro e w9 ⟨rfl, hw9⟩; subst w9)
                | (go_at_call 33; (with_reducible refine (HL2.out _ HV1.out).mono ?_); rintro e v2 ⟨rfl, hb2⟩; have hb3 := (HV1.out).trans (hb2.mono (HV1.out).size); have kx := (hb3.block yb hyr).trans KY.out; have y0 := cells_at kx 0 (.slice O ov.length oc) rfl; have y1 := cells_at kx 1 (.slice Q bs.length qc) rfl; have y2 := cells_at kx 2 (.int .i64 (top + m)) rfl; have HV2 := Lib.hid hb3; clear hb2 hb3 kx)
                | (go_at_call 33; (with_reducible refine (HL3.out _ HV2.out).mono ?_); rintro e v3 ⟨rfl, hb2⟩; have hb3 := HV2.out.trans (hb2.mono HV2.out.size); have kx := (hb3.block sb hsr).trans KX.out; have d0 := cells_at kx 0 (.slice O ov.length oc) rfl; have d1 := cells_at kx 1 (.slice Q bs.length qc) rfl; have d2 := cells_at kx 2 (.int .i64 top) rfl; have HV3 := Lib.hid hb3; clear hb2 hb3 kx)
                | (go_at_call 27; (with_reducible refine (HHQ.out _ HV3.out).mono ?_); rintro e w9 ⟨rfl, hw9⟩; subst w9))
              go_roundg (zs.length - (k + 1))
              case measure => exact Nat.lt_of_lt_of_le (Nat.sub_lt_sub_left hlt (Nat.lt_succ_self k)) hkx
              case rel => exact ⟨k + 1, hq, by go_num, by first | rfl | simp, by omega, by omega, Lib.hid (by rw [HSN.out, HWQ.out]; (try simp)), Lib.hid (HW.out.trans (HV3.out.mono hwz))⟩
          | true =>
            have HWQ := Lib.hid (wait_skip (bs := bs) HHO2.out)
            cases o1 with
            | none =>
              simp only [Option.getD_none, Option.isSome_none] at HL1
              cases wv with
              | true =>
                go_wp2_with (first
                  | (go_at_call 33; (with_reducible refine (HL1.out).mono ?_); rintro e v1 ⟨rfl, hb1⟩; have kx := (hb1.block sb hsr).trans KX.out; have d0 := cells_at kx 0 (.slice O ov.length oc) rfl; have d1 := cells_at kx 1 (.slice Q bs.length qc) rfl; have d2 := cells_at kx 2 (.int .i64 top) rfl; have HV1 := Lib.hid hb1; clear hb1 kx)
                  | (go_at_call 27; (with_reducible refine (HHO1.out _ HV1.out).mono ?_); rintro e w9 ⟨rfl, hw9⟩; subst w9)
                  | (go_at_call 33; (with_reducible refine (HL2.out _ HV1.out).mono ?_); rintro e v2 ⟨rfl, hb2⟩; have hb3 := (HV1.out).trans (hb2.mono (HV1.out).size); have kx := (hb3.block yb hyr).trans KY.out; have y0 := cells_at kx 0 (.slice O ov.length oc) rfl; have y1 := cells_at kx 1 (.slice Q bs.length qc) rfl; have y2 := cells_at kx 2 (.int .i64 (top + m)) rfl; have HV2 := Lib.hid hb3; clear hb2 hb3 kx)
                  | (go_at_call 33; (with_reducible refine (HL3.out _ HV2.out).mono ?_); rintro e v3 ⟨rfl, hb2⟩; have hb3 := HV2.out.trans (hb2.mono HV2.out.size); have kx := (hb3.block sb hsr).trans KX.out; have d0 := cells_at kx 0 (.slice O ov.length oc) rfl; have d1 := cells_at kx 1 (.slice Q bs.length qc) rfl; have d2 := cells_at kx 2 (.int .i64 top) rfl; have HV3 := Lib.hid hb3; clear hb2 hb3 kx))
                go_roundg (zs.length - (k + 1))
                case measure => exact Nat.lt_of_lt_of_le (Nat.sub_lt_sub_left hlt (Nat.lt_succ_self k)) hkx
                case rel => exact ⟨k + 1, true, by go_num, by first | rfl | simp, by omega, by omega, Lib.hid (by rw [HSN.out, HWQ.out]; (try simp)), Lib.hid (HW.out.trans (HV3.out.mono hwz))⟩
              | false =>
                go_wp2_with (first
                  | (go_at_call 33; (with_reducible refine (HL1.out).mono ?_); rintro e v1 ⟨rfl, hb1⟩; have kx := (hb1.block sb hsr).trans KX.out; have d0 := cells_at kx 0 (.slice O ov.length oc) rfl; have d1 := cells_at kx 1 (.slice Q bs.length qc) rfl; have d2 := cells_at kx 2 (.int .i64 top) rfl; have HV1 := Lib.hid hb1; clear hb1 kx)
                  | (go_at_call 27; (with_reducible refine (HHO1.out _ HV1.out).mono ?_); rintro e w9 ⟨rfl, hw9⟩; subst w9)
                  | (go_at_call 33; (with_reducible refine (HL2.out _ HV1.out).mono ?_); rintro e v2 ⟨rfl, hb2⟩; have hb3 := (HV1.out).trans (hb2.mono (HV1.out).size); have kx := (hb3.block yb hyr).trans KY.out; have y0 := cells_at kx 0 (.slice O ov.length oc) rfl; have y1 := cells_at kx 1 (.slice Q bs.length qc) rfl; have y2 := cells_at kx 2 (.int .i64 (top + m)) rfl; have HV2 := Lib.hid hb3; clear hb2 hb3 kx)
                  | (go_at_call 33; (with_reducible refine (HL3.out _ HV2.out).mono ?_); rintro e v3 ⟨rfl, hb2⟩; have hb3 := HV2.out.trans (hb2.mono HV2.out.size); have kx := (hb3.block sb hsr).trans KX.out; have d0 := cells_at kx 0 (.slice O ov.length oc) rfl; have d1 := cells_at kx 1 (.slice Q bs.length qc) rfl; have d2 := cells_at kx 2 (.int .i64 top) rfl; have HV3 := Lib.hid hb3; clear hb2 hb3 kx))
                go_roundg (zs.length - (k + 1))
                case measure => exact Nat.lt_of_lt_of_le (Nat.sub_lt_sub_left hlt (Nat.lt_succ_self k)) hkx
                case rel => exact ⟨k + 1, false, by go_num, by first | rfl | simp, by omega, by omega, Lib.hid (by rw [HSN.out, HWQ.out]; (try simp)), Lib.hid (HW.out.trans (HV3.out.mono hwz))⟩
            | some z =>
              simp only [Option.getD_some, Option.isSome_some] at HL1
              obtain ⟨hz1, hz2, hz3⟩ := HMO.out z rfl rfl
              have hm2 : m2 = true := HM2.out rfl
              have hm3 : m3 = true := HM3.out rfl
              subst hm2 hm3
              have HHZ := Lib.hid (fun (v : World) (h : Below wr.heap.size wr v) => HHO.out v h z)
              have HUZ := Lib.hid (fun (v : World) (h : Below wr.heap.size wr v) => HUN.out v h z)
              rw [hz1] at HHZ
              rw [hz2] at HUZ
              clear hz1 hz2
              cases wv with
              | true =>
                go_wp2_with (first
                  | (go_at_call 33; (with_reducible refine (HL1.out).mono ?_); rintro e v1 ⟨rfl, hb1⟩; have kx := (hb1.block sb hsr).trans KX.out; have d0 := cells_at kx 0 (.slice O ov.length oc) rfl; have d1 := cells_at kx 1 (.slice Q bs.length qc) rfl; have d2 := cells_at kx 2 (.int .i64 top) rfl; have HV1 := Lib.hid hb1; clear hb1 kx)
                  | (go_at_call 27; (with_reducible refine (HHO1.out _ HV1.out).mono ?_); rintro e w9 ⟨rfl, hw9⟩; subst w9)
                  | (go_at_call 27; (with_reducible refine (HHZ.out _ HV1.out).mono ?_); rintro e w9 ⟨rfl, hw9⟩; subst w9)
                  | (go_at_call 25; (with_reducible refine (HUZ.out _ HV1.out).mono ?_); rintro e v1u ⟨rfl, hb1⟩; have hb2 := HV1.out.trans (hb1.mono HV1.out.size); have kx := (hb2.block sb hsr).trans KX.out; have d0 := cells_at kx 0 (.slice O ov.length oc) rfl; have d1 := cells_at kx 1 (.slice Q bs.length qc) rfl; have d2 := cells_at kx 2 (.int .i64 top) rfl; have HVU := Lib.hid hb2; clear hb1 hb2 kx)
                  | (go_at_call 33; (with_reducible refine (HL2.out _ HVU.out).mono ?_); rintro e v2 ⟨rfl, hb2⟩; have hb3 := (HVU.out).trans (hb2.mono (HVU.out).size); have kx := (hb3.block yb hyr).trans KY.out; have y0 := cells_at kx 0 (.slice O ov.length oc) rfl; have y1 := cells_at kx 1 (.slice Q bs.length qc) rfl; have y2 := cells_at kx 2 (.int .i64 (top + m)) rfl; have HV2 := Lib.hid hb3; clear hb2 hb3 kx)
                  | (go_at_call 33; (with_reducible refine (HL3.out _ HV2.out).mono ?_); rintro e v3 ⟨rfl, hb2⟩; have hb3 := HV2.out.trans (hb2.mono HV2.out.size); have kx := (hb3.block sb hsr).trans KX.out; have d0 := cells_at kx 0 (.slice O ov.length oc) rfl; have d1 := cells_at kx 1 (.slice Q bs.length qc) rfl; have d2 := cells_at kx 2 (.int .i64 top) rfl; have HV3 := Lib.hid hb3; clear hb2 hb3 kx))
                go_roundg (zs.length - (k + 1))
                case measure => exact Nat.lt_of_lt_of_le (Nat.sub_lt_sub_left hlt (Nat.lt_succ_self k)) hkx
                case rel => exact ⟨k + 1, true, by go_num, by first | rfl | simp, by omega, by omega, Lib.hid (by rw [HSN.out, HWQ.out]; (try simp)), Lib.hid (HW.out.trans (HV3.out.mono hwz))⟩
              | false =>
                go_wp2_with (first
                  | (go_at_call 33; (with_reducible refine (HL1.out).mono ?_); rintro e v1 ⟨rfl, hb1⟩; have kx := (hb1.block sb hsr).trans KX.out; have d0 := cells_at kx 0 (.slice O ov.length oc) rfl; have d1 := cells_at kx 1 (.slice Q bs.length qc) rfl; have d2 := cells_at kx 2 (.int .i64 top) rfl; have HV1 := Lib.hid hb1; clear hb1 kx)
                  | (go_at_call 27; (with_reducible refine (HHO1.out _ HV1.out).mono ?_); rintro e w9 ⟨rfl, hw9⟩; subst w9)
                  | (go_at_call 27; (with_reducible refine (HHZ.out _ HV1.out).mono ?_); rintro e w9 ⟨rfl, hw9⟩; subst w9)
                  | (go_at_call 25; (with_reducible refine (HUZ.out _ HV1.out).mono ?_); rintro e v1u ⟨rfl, hb1⟩; have hb2 := HV1.out.trans (hb1.mono HV1.out.size); have kx := (hb2.block sb hsr).trans KX.out; have d0 := cells_at kx 0 (.slice O ov.length oc) rfl; have d1 := cells_at kx 1 (.slice Q bs.length qc) rfl; have d2 := cells_at kx 2 (.int .i64 top) rfl; have HVU := Lib.hid hb2; clear hb1 hb2 kx)
                  | (go_at_call 33; (with_reducible refine (HL2.out _ HVU.out).mono ?_); rintro e v2 ⟨rfl, hb2⟩; have hb3 := (HVU.out).trans (hb2.mono (HVU.out).size); have kx := (hb3.block yb hyr).trans KY.out; have y0 := cells_at kx 0 (.slice O ov.length oc) rfl; have y1 := cells_at kx 1 (.slice Q bs.length qc) rfl; have y2 := cells_at kx 2 (.int .i64 (top + m)) rfl; have HV2 := Lib.hid hb3; clear hb2 hb3 kx)
                  | (go_at_call 33; (with_reducible refine (HL3.out _ HV2.out).mono ?_); rintro e v3 ⟨rfl, hb2⟩; have hb3 := HV2.out.trans (hb2.mono HV2.out.size); have kx := (hb3.block sb hsr).trans KX.out; have d0 := cells_at kx 0 (.slice O ov.length oc) rfl; have d1 := cells_at kx 1 (.slice Q bs.length qc) rfl; have d2 := cells_at kx 2 (.int .i64 top) rfl; have HV3 := Lib.hid hb3; clear hb2 hb3 kx))
                go_roundg (zs.length - (k + 1))
                case measure => exact Nat.lt_of_lt_of_le (Nat.sub_lt_sub_left hlt (Nat.lt_succ_self k)) hkx
                case rel => exact ⟨k + 1, false, by go_num, by first | rfl | simp, by omega, by omega, Lib.hid (by rw [HSN.out, HWQ.out]; (try simp)), Lib.hid (HW.out.trans (HV3.out.mono hwz))⟩
        · have hltz : ¬ (k : Int) < (zs.length : Int) := by omega
          obtain rfl : k = zs.length := by omega
          have HVA : Hid (wv = zs.any (waitB ov bs)) := Lib.hid (by have := HV.out; rwa [List.take_length] at this)
          have HAB := Lib.hid (sable_c t r d l fs (by omega) HR.out S O oc ov Q qc bs hol hql top wr ((HS6.out.below H6r.out).up h6z) ((HO.out.below HWW.out).more HWW.out.size) ((HQ.out.below HWW.out).more HWW.out.size))
          unfold ListOk at HAB
          have hal := ableS_len (l := l) r top ov bs
          have d0 := cells_at KX.out 0 (.slice O ov.length oc) rfl; have d1 := cells_at KX.out 1 (.slice Q bs.length qc) rfl; have d2 := cells_at KX.out 2 (.int .i64 top) rfl
          cases wv with
          | false =>
            go_wp2_with (go_at_call 32; (with_reducible refine (HL.out _).mono ?_); rintro e w9 ⟨rfl, hb9⟩; have HB9 := Lib.hid hb9; clear hb9)
            go_ret
            exact ⟨rfl, HWW.out.trans (HB9.out.mono HWW.out.size)⟩
          | true =>
            have hpos := HEND.out HVA.out.symm
            generalize ableS l r top ov bs = es at *
            have hpz : (0 : Int) < (es.length : Int) := by omega
            go_wp2_with (first
              | (go_at_call 34; (with_reducible refine (HAB.out).mono ?_); rintro e w8 ⟨A8, c8, rfl, hs8, hb8⟩; have HB8 := Lib.hid hb8; clear hb8 hs8)
              | (go_at_call 32; (with_reducible refine (HL.out _).mono ?_); rintro e w9 ⟨rfl, hb9⟩; have HB9 := Lib.hid hb9; clear hb9))
            go_ret
            exact ⟨rfl, HWW.out.trans ((HB8.out.trans (HB9.out.mono HB8.out.size)).mono HWW.out.size)⟩
end Go.Proofs.YtpchhfhmopmagaaGreat.Le
