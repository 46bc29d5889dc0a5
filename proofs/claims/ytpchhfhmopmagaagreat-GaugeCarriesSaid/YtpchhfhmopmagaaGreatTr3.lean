/- check. -/
import Derived.Test.YtpchhfhmopmagaaGreatTpM
import Derived.Test.YtpchhfhmopmagaaGreatTr2
set_option linter.unusedVariables false
set_option linter.unusedSimpArgs false
namespace Go.Proofs.YtpchhfhmopmagaaGreat.Tr
open Go.RowKit Go.Maps Go.Proofs.YtpchhfhmopmagaaGreat.Wd Go.Proofs.YtpchhfhmopmagaaGreat.Li Go.Proofs.YtpchhfhmopmagaaGreat.Mp Go.Proofs.YtpchhfhmopmagaaGreat.Tp Go.Proofs.YtpchhfhmopmagaaGreat.Cl Go.Proofs.YtpchhfhmopmagaaGreat.So
attribute [local go_sem] run_store_float Lx.opX Rel.oneOk
attribute [local irreducible] Lx.wpX

theorem holds_parts {N : Nat} {w : World} {A : Option Addr} {len cap : Nat} {zs : List Cls} (h : Holds N w (.slice A len cap) zs) : len = zs.length ∧ (0 < zs.length → ∃ b off, A = some ⟨b, off, none⟩ ∧ b < N ∧ ∀ (j : Nat) (x : Cls), zs[j]? = some x → ∀ (i : Nat) (v : Value), x.cells[i]? = some v → w.cell? ⟨b, off + j * 11 + i, none⟩ = some v) :=
  Lies.parts (z := 11) (cells := Cls.cells) h
theorem holds_take {N : Nat} {w : World} {b off len cap : Nat} {zs : List Cls} (h : Holds N w (.slice (some ⟨b, off, none⟩) len cap) zs) {k : Nat} (hk : k ≤ zs.length) (c' : Nat) : Holds N w (.slice (some ⟨b, off, none⟩) k c') (zs.take k) := by
  rcases h with ⟨e, _⟩ | ⟨b', off', c, e, hb, hc⟩
  · cases e
  · obtain ⟨e1, _, _⟩ := Value.slice.inj e
    injection e1 with e1
    injection e1 with e1 e2
    subst e1 e2
    refine .inr ⟨b, off, c', by rw [List.length_take, Nat.min_eq_left hk], hb, fun j x hx => hc j x ?_⟩
    have hj : j < k := by have := (List.getElem?_eq_some_iff.1 hx).1; rw [List.length_take] at this; omega
    rwa [List.getElem?_take_of_lt hj] at hx
theorem new_cls (w : World) (x : Cls) : ∀ (i : Nat) (v : Value), x.cells[i]? = some v → (w.alloc (.cells #[.int .i64 x.id, .int .i64 x.parent, .float .f64 x.share, .int .i64 x.prio, .int .i64 x.quantum, .int .i64 x.limit, .int .i64 x.weight, .int .i64 x.minIdle, .int .i64 x.maxIdle, .bool x.bounded, .bool x.isolated] 84)).cell? ⟨w.heap.size, i, none⟩ = some v := by
  intro i v hv
  have hi : i < 11 := (List.getElem?_eq_some_iff.1 hv).1
  have hh := heap_alloc_new w (.cells #[.int .i64 x.id, .int .i64 x.parent, .float .f64 x.share, .int .i64 x.prio, .int .i64 x.quantum, .int .i64 x.limit, .int .i64 x.weight, .int .i64 x.minIdle, .int .i64 x.maxIdle, .bool x.bounded, .bool x.isolated] 84)
  simp only [World.cell?, hh]
  rw [← hv]
  simp [Cls.cells]
def checkS (l : List Cls) : Int := if l.length = 0 then 8 else if 64 < l.length then 3 else scan l l.length
def RetI (n : Int) (w : World) (e : Ending) (w' : World) : Prop := e = .returned (.int .i64 n) ∧ Below w.heap.size w w'

set_option maxRecDepth 20000 in
set_option maxHeartbeats 4000000 in
theorem check_c (A : Option Addr) (n c : Nat) (l : List Cls) (hs : ∀ x ∈ l, x.share < 18446744073709551616) (hlen : l.length ≤ 1048576) (hcap : n ≤ c) (w : World) (hI : Holds w.heap.size w (.slice A n c) l) :
    Calls Tryz.prog 127 #[.slice A n c] w (RetI (checkS l) w) := by
  obtain ⟨rfl, hcs⟩ := holds_parts hI
  by_cases h0 : l.length = 0
  · have e : checkS l = 8 := by unfold checkS; rw [if_pos h0]
    rw [e]
    have h0z : ((l.length : Int) == 0) = true := by rw [beq_iff_eq]; omega
    clear e hcs hs h0
    go_enter Tryz.func127, Tryz.ntmps127
    go_wp2
    go_ret
    exact ⟨rfl, Below.refl _ _⟩
  by_cases h64 : 64 < l.length
  · have e : checkS l = 3 := by unfold checkS; rw [if_neg h0, if_pos h64]
    rw [e]
    have h0z : ((l.length : Int) == 0) = false := by rw [beq_eq_false_iff_ne]; omega
    have h64z : (64 : Int) < (l.length : Int) := by omega
    clear e hcs hs h0 h64
    go_enter Tryz.func127, Tryz.ntmps127
    go_wp2
    go_ret
    exact ⟨rfl, Below.refl _ _⟩
  have e : checkS l = scan l l.length := by unfold checkS; rw [if_neg h0, if_neg h64]
  rw [e]
  have h0z : ((l.length : Int) == 0) = false := by rw [beq_eq_false_iff_ne]; omega
  have h64z : ¬ (64 : Int) < (l.length : Int) := by omega
  obtain ⟨b, off, rfl, hb, hc⟩ := hcs (by omega)
  have HC := Lib.hid hc; have HI := Lib.hid hI; have HS := Lib.hid hs
  clear e hcs hs h0 h64 hc hI
  go_enter Tryz.func127, Tryz.ntmps127
  go_wp2_with fail
  go_loopg [16] l.length (fun kx s16 wr => ∃ k : Nat, s16 = .int .i64 k ∧ k ≤ l.length ∧ l.length - k ≤ kx ∧ Hid (scan l k = 0) ∧ Hid (Below w.heap.size w wr))
  case atStart => exact ⟨0, rfl, by omega, by omega, Lib.hid rfl, Lib.hid (Below.refl _ _)⟩
  case round =>
    obtain ⟨k, rfl, hk, hkx, HSC, HW⟩ := hrel
    clear h0z h64z
    by_cases hlt : k < l.length
    · have hltz : (k : Int) < (l.length : Int) := by omega
      obtain ⟨x, hx⟩ : ∃ x, l[k]? = some x := ⟨_, List.getElem?_eq_getElem hlt⟩
      have hcx : ∀ (i : Nat) (v : Value), x.cells[i]? = some v → wr.cell? ⟨b, off + k * 11 + i, none⟩ = some v := fun i v hv => (HW.out.cell (p := ⟨b, off + k * 11 + i, none⟩) hb).trans (HC.out k x hx i v hv)
      have c0 : wr.cell? ⟨b, off + k * 11, none⟩ = some (.int .i64 x.id) := hcx 0 _ rfl
      have c1 := hcx 1 _ rfl; have c2 := hcx 2 _ rfl; have c3 := hcx 3 _ rfl; have c4 := hcx 4 _ rfl; have c5 := hcx 5 _ rfl; have c6 := hcx 6 _ rfl; have c7 := hcx 7 _ rfl; have c8 := hcx 8 _ rfl; have c9 := hcx 9 _ rfl; have c10 := hcx 10 _ rfl
      have hws := HW.out.size
      have HX := Lib.hid hx
      have hrt := Lib.hid (fun u => right_any x (HS.out x (List.mem_of_getElem? hx)) u)
      clear hcx hx
      by_cases hr : rightS x = 0
      · have HER := Lib.hid hr
        rw [hr] at hrt
        clear hr
        unfold Cls.agg at hrt
        go_upto_region 11 with (go_at_call 185; refine (hrt.out _).mono ?_; rintro e w1 ⟨rfl, hb1⟩; have HB1 := Lib.hid hb1; clear hb1)
        have hx0 : w1.cell? ⟨wr.heap.size, 0, none⟩ = some (.int .i64 x.id) := (HB1.out.cell (p := ⟨wr.heap.size, 0, none⟩) (by simp)).trans (new_cls wr x 0 _ rfl)
        have hBw : Below w.heap.size w w1 := (HW.out.alloc hws _).trans (HB1.out.mono (by simp; omega))
        have HBW := Lib.hid hBw
        have hfind := Lib.hid (fun u (hu : Below w.heap.size w u) => find_c (some ⟨b, off, none⟩) k c (l.take k) x.id (by rw [List.length_take]; omega) u ((holds_take (HI.out.below hu) hk c).up hu.size))
        clear hBw hrt c0 c1 c2 c3 c4 c5 c6 c7 c8 c9 c10
        have hkc : (k : Int) ≤ (c : Int) := by omega
        have hc0 : ¬ c = 0 := by omega
        refine Lx.wp_region_X 6 (fun w' => ∃ u, w' = Lx.kept (fun g => g = wr.heap.size) w1.drew u) (fun i => i == 5) (by kernel_rfl) (by kernel_rfl) (Lx.kept_of (Lx.Keeps.refl _ _)) ?_
        simp only [List.take_succ_cons, List.take_zero, List.drop_succ_cons, List.drop_zero]
        repeat (refine Lx.wpX_step (fun K hK => ?_); refine Lx.opX_free (by rfl) (by rfl) (by rfl) ?_; go_big_quiet_op; refine hK _ _ ?_; clear hK K)
        refine Lx.wpX_step (fun K hK => ?_)
        refine Lx.opX_law (by rfl) (by rfl) ?_
        go_wp2_with (go_at_call 199; refine (hfind.out _ HBW.out.drew).mono ?_; rintro e w2 ⟨rfl, hb2⟩; have HB2 := Lib.hid hb2; clear hb2)
        refine Lx.nq_mk (Lx.kept_of (fun g hg => HB2.out.block g (by subst hg; have := HB1.out.size; simp at this ⊢; omega))) (hK _ _ ?_)
        clear hK K
        refine Lx.wpX_nil ?_
        have HBr : Hid (Below w.heap.size w w2) := Lib.hid (HBW.out.drew.trans (HB2.out.mono (by have := HBW.out.size; simpa using this)))
        have hea := Lib.hid (errAt_is (l := l) HX.out HER.out)
        by_cases hf : findC (l.take k) x.id < 0
        · have hfz : decide (0 ≤ findC (l.take k) x.id) = false := decide_eq_false (by omega)
          have HE : Hid (errAt l k = 0) := Lib.hid (by rw [hea.out, if_pos hf])
          clear hf hkc hc0 hx0
          go_wp2_with fail
          go_roundg (l.length - (k + 1))
          case measure => omega
          case rel => exact ⟨k + 1, by go_num, by omega, by omega, Lib.hid (by rw [scan_succ HSC.out, HE.out]), HBr⟩
        · have hfz : decide (0 ≤ findC (l.take k) x.id) = true := decide_eq_true (by omega)
          have HE : Hid (errAt l k = 9) := Lib.hid (by rw [hea.out, if_neg hf])
          clear hf hkc hc0 hx0
          go_wp2_with fail
          go_ret
          exact ⟨by rw [scan_hit HSC.out (by rw [HE.out]; decide) l.length hlt, HE.out]; rfl, HBr.out⟩
      · have hea := Lib.hid (errAt_bad (l := l) HX.out hr)
        have hrb : (rightS x == 0) = false := by rw [beq_eq_false_iff_ne]; exact hr
        have hrn : (rightS x != 0) = true := by rw [bne_iff_ne]; exact hr
        have HR := Lib.hid hr
        unfold Cls.agg at hrt
        clear hr
        generalize hrx : rightS x = rx at *
        have HRX := Lib.hid hrx
        clear hrx
        go_wp2_with (go_at_call 185; refine (hrt.out _).mono ?_; rintro e w1 ⟨rfl, hb1⟩; have HB1 := Lib.hid hb1; clear hb1)
        go_ret
        exact ⟨by rw [scan_hit HSC.out (by rw [hea.out]; exact HR.out) l.length hlt, hea.out]; rfl, (HW.out.alloc hws _).trans (HB1.out.mono (by simp; omega))⟩
    · have hltz : ¬ (k : Int) < (l.length : Int) := by omega
      obtain rfl : k = l.length := by omega
      go_wp2
      go_ret
      exact ⟨by rw [HSC.out]; rfl, HW.out⟩
end Go.Proofs.YtpchhfhmopmagaaGreat.Tr
