/- gauge.Wake, gauge.Overs. The law's same: the gauge's states are the document's. The document's gauges: New. The document's gauges: New, Sent. Facts for the law GaugePlays: the path has no class twice, what a packet does to the rows, Sent of no leaf, New of no set. The law GaugePlays. -/
import Derived.Test.YtpchhfhmopmagaaGreatReM
import Derived.Test.YtpchhfhmopmagaaGreatPbM
import Derived.Test.YtpchhfhmopmagaaGreatGaM
set_option linter.unusedVariables false
set_option linter.unusedSimpArgs false
/- gauge.Wake, gauge.Overs. -/
namespace Go.Proofs.YtpchhfhmopmagaaGreat.Rg
open Go.RowKit Go.Maps Wd Li St Sr Go.Proofs.YtpchhfhmopmagaaGreat.Mp Go.Proofs.YtpchhfhmopmagaaGreat.Cl Go.Proofs.YtpchhfhmopmagaaGreat.So Go.Proofs.YtpchhfhmopmagaaGreat.Tr Go.Proofs.YtpchhfhmopmagaaGreat.Tp Go.Proofs.YtpchhfhmopmagaaGreat.Sw Go.Proofs.YtpchhfhmopmagaaGreat.Id Go.Proofs.YtpchhfhmopmagaaGreat.Ga Go.Proofs.YtpchhfhmopmagaaGreat.Cf Go.Proofs.YtpchhfhmopmagaaGreat.Fi
attribute [local go_sem] run_store_float Lx.opX Rel.oneOk
attribute [local irreducible] Lx.wpX

@[go_sem] theorem s3_2 (a b c : Int) (w : World) : (Instr.field 46 (.agg #[.int .i64 a, .int .i64 b, .int .i64 c]) 2).run Tryz.prog w = .ok (.int .i64 c) w := by kernel_rfl
set_option maxRecDepth 20000 in
set_option maxHeartbeats 1000000 in
theorem gwake_c (g h n : Nat) (S : Nat) (st : Int → Option S3) (s : S3) (id now : Int) (hid : (Lit.int .i64 id).wf = true) (hsi : st id = some s) (w : World) (hg : w.heap[g]? = some (.cells #[.pointer (some ⟨S, 0, none⟩), .map (some h)] 122 (0, 0))) (hm : StM w h n st) :
    Calls Tryz.prog 42 #[.pointer (some ⟨g, 0, none⟩), .int .i64 id, .int .i64 now] w fun e w' => e = .returned (.int .i64 (wakeS s now)) ∧ Below w.heap.size w w' := by
  have HO := Lib.hid (gover_c g h n (.pointer (some ⟨S, 0, none⟩)) st s id now hid hsi w hg hm)
  have hgl := (Array.getElem?_eq_some_iff.1 hg).1
  have HG := Lib.hid hg; have HM := Lib.hid hm
  clear hg hm
  by_cases hq : now < s.u
  · have hr := Lib.hid (show wakeS s now = s.u from if_pos hq)
    have hd : decide (now < s.u) = true := decide_eq_true hq
    rw [hd] at HO
    clear hq hd
    go_enter Tryz.func42, Tryz.ntmps42
    go_wp2_with (go_at_call 40; (with_reducible refine (HO.out).mono ?_); rintro e w1 ⟨rfl, hb1⟩; have g1 := cells_at ((hb1.block g hgl).trans HG.out) 1 (.map (some h)) rfl; have hlk : (Instr.lookup 120 (.map (some h)) (.int .i64 id) false).run Tryz.prog w1 = .ok (.agg #[.int .i64 s.l, .int .i64 s.a, .int .i64 s.u]) w1 := (by have h2 := (HM.out.below hb1 HM.out.lt).look s3_kind Tryz.underlying3 Tryz.underlying120 (zs3 w1) hid; rw [hsi] at h2; exact h2); have HB1 := Lib.hid hb1; clear hb1)
    go_ret
    exact ⟨by rw [hr.out]; rfl, HB1.out⟩
  · have hr := Lib.hid (show wakeS s now = now from if_neg hq)
    have hd : decide (now < s.u) = false := decide_eq_false hq
    rw [hd] at HO
    clear hq hd
    go_enter Tryz.func42, Tryz.ntmps42
    go_wp2_with (go_at_call 40; (with_reducible refine (HO.out).mono ?_); rintro e w1 ⟨rfl, hb1⟩; have HB1 := Lib.hid hb1; clear hb1)
    go_ret
    exact ⟨by rw [hr.out]; rfl, HB1.out⟩
/-- the rows that the gauge's states are -/
structure Agree (l : List Cls) (st : Int → Option S3) (zs : List G) : Prop where
  ids : zs.map G.id = Tp.ids (sortC l)
  st : ∀ (k : Nat) (x : G), zs[k]? = some x → st x.id = some x.s
set_option maxRecDepth 20000 in
set_option maxHeartbeats 2000000 in
theorem govers_c (t r d : Int) (l : List Cls) (fs : List F) (R : Tp.Tree l) (g h S n₀ : Nat) (st : Int → Option S3) (zs : List G) (hz : Agree l st zs) (now : Int) (w : World) (hn0 : n₀ ≤ w.heap.size) (hS : SetAt w n₀ S t r d l fs) (hG : GaugeAt w g h S st) :
    Calls Tryz.prog 41 #[.pointer (some ⟨g, 0, none⟩), .int .i64 now] w (ListOk (overK zs now zs.length) w) := by
  obtain ⟨T, Tb, q, A1, c1, A2, c2, hSl, hSc, hTr, _⟩ := hS
  have h64 := R.le
  have HID := Lib.hid (tids_c T l h64 w (hTr.up hn0))
  unfold ListOk at HID
  have hgl := (Array.getElem?_eq_some_iff.1 hG.cell).1
  have g0 := cells_at hG.cell 0 (.pointer (some ⟨S, 0, none⟩)) rfl
  have s0 := cells_at hSc 0 (.pointer (some ⟨T, 0, none⟩)) rfl
  have HG := Lib.hid hG; have HZ := Lib.hid hz
  have hzl : zs.length ≤ 64 := by
    have := congrArg List.length hz.ids
    rw [List.length_map, ids_len] at this
    omega
  have HPOS := Lib.hid (fun (k : Nat) (x : G) (hx : zs[k]? = some x) => show (Lit.int .i64 x.id).wf = true by
    have hm : x.id ∈ Tp.ids l := (sort_ids x.id).1 (by rw [← hz.ids]; exact List.mem_map.2 ⟨x, List.mem_of_getElem? hx, rfl⟩)
    cases ha : at? l x.id with
    | none => exact absurd hm (at_none.1 ha)
    | some c => have hm := at_mem ha; have hp := R.good.pos c hm.1; exact wf_id (by rw [← hm.2]; omega))
  rw [← hz.ids] at HID
  rw [List.length_map] at HID
  clear hSc hTr hG hz R
  go_enter Tryz.func41, Tryz.ntmps41
  go_wp2_with (first
    | (go_at_call 19; (with_reducible refine (settree_c _ _ _ s0).mono ?_); rintro e w' ⟨rfl, rfl⟩)
    | (go_at_call 23; (with_reducible refine (HID.out).mono ?_); rintro e w2 ⟨A3, c3, rfl, hs2, hb2⟩; have HS2 := Lib.hid hs2; have HB2 := Lib.hid hb2; clear hs2 hb2))
  have hw2 := HB2.out.size
  clear g0 s0 HID
  go_loopg [5, 17] zs.length (fun kx s5 s17 wr => ∃ (k : Nat) (B9 : Option Addr) (c9 : Nat), s17 = .int .i64 k ∧ s5 = .slice B9 (overK zs now k).length c9 ∧ k ≤ zs.length ∧ zs.length - k ≤ kx ∧ Hid (wr.ownsRow w2.heap.size 3 1 s5 (overK zs now k).length (St.I (overK zs now k))) ∧ Hid (Below w2.heap.size w2 wr))
  case atStart => exact ⟨0, none, 0, rfl, rfl, by omega, by omega, Lib.hid (World.ownsRow_nil ..), Lib.hid (Below.refl _ _)⟩
  case round =>
    obtain ⟨k, B9, c9, rfl, rfl, hk, hkx, HO, HW⟩ := hrel
    have hwz := HW.out.size
    by_cases hlt : k < zs.length
    · have hltz : (k : Int) < (zs.length : Int) := by omega
      obtain ⟨a, rfl, hab, hac⟩ := (HS2.out.below HW.out).2 (by omega)
      obtain ⟨x, hx⟩ : ∃ x, zs[k]? = some x := ⟨_, List.getElem?_eq_getElem hlt⟩
      have ck := hac k (.int .i64 x.id) (by unfold St.I; rw [List.map_map, List.getElem?_map, hx]; rfl)
      have hbw := HB2.out.trans (HW.out.mono hw2)
      have HV := Lib.hid (gover_c g h 64 (.pointer (some ⟨S, 0, none⟩)) st x.s x.id now (HPOS.out k x hx) (HZ.out.st k x hx) wr ((hbw.block g hgl).trans HG.out.cell) (HG.out.map.below hbw HG.out.map.lt))
      have hol := overK_len zs now k
      by_cases hov : now < x.s.u
      · have HT := Lib.hid (overK_yes hx hov)
        have hd : decide (now < x.s.u) = true := decide_eq_true hov
        rw [hd] at HV
        clear hac hab hx hov hd hbw
        generalize overK zs now k = os at *
        go_wp2_with (first
          | (go_at_call 40; (with_reducible refine (HV.out).mono ?_); rintro e w3 ⟨rfl, hb3⟩; have HW2 := Lib.hid (HW.out.trans (hb3.mono hwz)); have HO2 := Lib.hid (own_below HO.out hb3); have hw3 := HW2.out.size; clear hb3)
          | ((at_builtin; go_must (refine wpList_push_at (by rfl) _ _ 38 (by rfl) Tryz.underlying38 w2.heap.size x.id _ _ os (by rfl) HO2.out (by rfl) (by omega) hw3 ?_)); intro g7 cap7 w7 hown7 hg7 hl7; have HO7 := Lib.hid hown7; have HB7 := Lib.hid (push_below HW2.out (Nat.le_refl _) hw3 HO2.out hg7); clear hown7 hg7 hl7))
        go_roundg (zs.length - (k + 1))
        case measure => omega
        case rel => exact ⟨k + 1, some ⟨g7, 0, none⟩, cap7, by go_num, by rw [HT.out]; simp, by omega, by omega, Lib.hid (by rw [HT.out]; have := HO7.out; simpa [Sv.val] using this), HB7⟩
      · have HT := Lib.hid (overK_no hx hov)
        have hd : decide (now < x.s.u) = false := decide_eq_false hov
        rw [hd] at HV
        clear hac hab hx hov hd hbw
        go_wp2_with (go_at_call 40; (with_reducible refine (HV.out).mono ?_); rintro e w3 ⟨rfl, hb3⟩; have HW2 := Lib.hid (HW.out.trans (hb3.mono hwz)); have HO2 := Lib.hid (own_below HO.out hb3); clear hb3)
        go_roundg (zs.length - (k + 1))
        case measure => omega
        case rel => exact ⟨k + 1, B9, c9, by go_num, by rw [HT.out], by omega, by omega, Lib.hid (by rw [HT.out]; exact HO2.out), HW2⟩
    · have hltz : ¬ (k : Int) < (zs.length : Int) := by omega
      obtain rfl : k = zs.length := by omega
      go_wp2
      go_ret
      exact ⟨B9, c9, rfl, Sl.of_own HO.out, HB2.out.trans (HW.out.mono hw2)⟩
end Go.Proofs.YtpchhfhmopmagaaGreat.Rg

/- The law's same: the gauge's states are the document's. -/
namespace Go.Proofs.YtpchhfhmopmagaaGreat.Rg
open Go.RowKit Go.Maps Wd Li St Sr Go.Proofs.YtpchhfhmopmagaaGreat.Mp Go.Proofs.YtpchhfhmopmagaaGreat.Cl Go.Proofs.YtpchhfhmopmagaaGreat.So Go.Proofs.YtpchhfhmopmagaaGreat.Tr Go.Proofs.YtpchhfhmopmagaaGreat.Tp Go.Proofs.YtpchhfhmopmagaaGreat.Sw Go.Proofs.YtpchhfhmopmagaaGreat.Id Go.Proofs.YtpchhfhmopmagaaGreat.Ga Go.Proofs.YtpchhfhmopmagaaGreat.Cf Go.Proofs.YtpchhfhmopmagaaGreat.Fi
attribute [local go_sem] run_store_float Lx.opX Rel.oneOk
attribute [local irreducible] Lx.wpX

theorem Agree.of {l : List Cls} {st : Int → Option S3} {zs : List G} (h : Agree l st zs) (G0 : Tp.Good l) {k : Nat} {x : G} (hx : zs[k]? = some x) : ofG zs x.id = some x.s := by
  refine find_hit hx (fun j y hj hy e => ?_) rfl
  have hn : (zs.map G.id).Nodup := by rw [h.ids]; exact (sort_good G0).nodup
  have h1 : (zs.map G.id)[j]? = some y.id := by rw [List.getElem?_map, hy]; rfl
  have h2 : (zs.map G.id)[k]? = some x.id := by rw [List.getElem?_map, hx]; rfl
  rw [e] at h1
  have hjl := (List.getElem?_eq_some_iff.1 h1).1
  have hkl := (List.getElem?_eq_some_iff.1 h2).1
  have e2 := (List.getElem?_eq_some_iff.1 h1).2.trans (List.getElem?_eq_some_iff.1 h2).2.symm
  exact (List.pairwise_iff_getElem.1 hn) j k hjl hkl hj e2
set_option maxRecDepth 20000 in
set_option maxHeartbeats 4000000 in
theorem same_c (t r d : Int) (l : List Cls) (fs : List F) (R : Tp.Tree l) (g h S n₀ : Nat) (st : Int → Option S3) (zs : List G) (hz : Agree l st zs) (A : Option Addr) (n c : Nat) (now : Int) (w : World) (hn0 : n₀ ≤ w.heap.size) (hS : SetAt w n₀ S t r d l fs) (hG : GaugeAt w g h S st) (hI : HoldsG w.heap.size w (.slice A n c) zs) :
    Calls Tryz.prog 30 #[.pointer (some ⟨g, 0, none⟩), .slice A n c, .int .i64 now] w fun e w' => e = .returned (.bool true) ∧ Below w.heap.size w w' := by
  obtain ⟨rfl, _⟩ := Lies.parts hI
  have HI := Lib.hid hI; have HZ := Lib.hid hz; have HG := Lib.hid hG; have HS := Lib.hid hS
  have hgl := (Array.getElem?_eq_some_iff.1 hG.cell).1
  have h64 := R.le
  have hzl : zs.length ≤ 64 := by
    have := congrArg List.length hz.ids
    rw [List.length_map, ids_len] at this
    omega
  have HPOS := Lib.hid (fun (k : Nat) (x : G) (hx : zs[k]? = some x) => show (Lit.int .i64 x.id).wf = true by
    have hm : x.id ∈ Tp.ids l := (sort_ids x.id).1 (by rw [← hz.ids]; exact List.mem_map.2 ⟨x, List.mem_of_getElem? hx, rfl⟩)
    cases ha : at? l x.id with
    | none => exact absurd hm (at_none.1 ha)
    | some c => have hm := at_mem ha; have hp := R.good.pos c hm.1; exact wf_id (by rw [← hm.2]; omega))
  have HR := Lib.hid R
  clear hI hz hG hS R
  go_enter Tryz.func30, Tryz.ntmps30
  go_wp2_with fail
  go_loopg [13] zs.length (fun kx s13 wr => ∃ k : Nat, s13 = .int .i64 k ∧ k ≤ zs.length ∧ zs.length - k ≤ kx ∧ Hid (Below w.heap.size w wr))
  case atStart => exact ⟨0, rfl, by omega, by omega, Lib.hid (Below.refl _ _)⟩
  case round =>
    obtain ⟨k, rfl, hk, hkx, HW⟩ := hrel
    have hwz := HW.out.size
    by_cases hlt : k < zs.length
    · have hltz : (k : Int) < (zs.length : Int) := by omega
      obtain ⟨_, hcs⟩ := Lies.parts HI.out
      obtain ⟨b, off, rfl, hb, hc⟩ := hcs (by omega)
      obtain ⟨x, hx⟩ : ∃ x, zs[k]? = some x := ⟨_, List.getElem?_eq_getElem hlt⟩
      have hcx : ∀ (i : Nat) (v : Value), x.cells[i]? = some v → wr.cell? ⟨b, off + k * 4 + i, none⟩ = some v := fun i v hv => (HW.out.cell (p := ⟨b, off + k * 4 + i, none⟩) hb).trans (hc k x hx i v hv)
      have c0 : wr.cell? ⟨b, off + k * 4, none⟩ = some (.int .i64 x.id) := hcx 0 _ rfl
      have c1 := hcx 1 _ rfl; have c2 := hcx 2 _ rfl; have c3 := hcx 3 _ rfl
      have hwf := HPOS.out k x hx
      have hsx := HZ.out.st k x hx
      have hof := HZ.out.of HR.out.good hx
      have HST := Lib.hid (fun (u : World) (hu : Below w.heap.size w u) => state_c g h 64 (.pointer (some ⟨S, 0, none⟩)) st x.id hwf u ((hu.block g hgl).trans HG.out.cell) (HG.out.map.below hu HG.out.map.lt))
      unfold StateOk at HST
      rw [hsx] at HST
      simp only [Option.getD_some, Option.isSome_some] at HST
      unfold S3.agg at HST
      have HV1 := Lib.hid (fun (u : World) (hu : Below w.heap.size w u) => gover_c g h 64 (.pointer (some ⟨S, 0, none⟩)) st x.s x.id now hwf hsx u ((hu.block g hgl).trans HG.out.cell) (HG.out.map.below hu HG.out.map.lt))
      have HV2 := Lib.hid (fun (u : World) (hu : Below w.heap.size w u) => refgover_c (some ⟨b, off, none⟩) zs.length c zs (by omega) x.s x.id now hof u (Lies.up hu.size (Lies.below hu HI.out)))
      have HV3 := Lib.hid (fun (u : World) (hu : Below w.heap.size w u) => gwake_c g h 64 S st x.s x.id now hwf hsx u ((hu.block g hgl).trans HG.out.cell) (HG.out.map.below hu HG.out.map.lt))
      have HV4 := Lib.hid (fun (u : World) (hu : Below w.heap.size w u) => refgwake_c (some ⟨b, off, none⟩) zs.length c zs (by omega) x.s x.id now hof u (Lies.up hu.size (Lies.below hu HI.out)))
      clear hcs hc hx hcx hwf hsx hof
      go_upto_region 4 with fail
      have hh := heap_alloc_new wr (.cells #[.int .i64 x.id, .int .i64 x.s.l, .int .i64 x.s.a, .int .i64 x.s.u] 140)
      have hb1 := HW.out.alloc hwz (.cells #[.int .i64 x.id, .int .i64 x.s.l, .int .i64 x.s.a, .int .i64 x.s.u] 140)
      have hz1 : (wr.alloc (.cells #[.int .i64 x.id, .int .i64 x.s.l, .int .i64 x.s.a, .int .i64 x.s.u] 140)).heap.size = wr.heap.size + 1 := by simp
      generalize World.alloc wr _ = u at *
      obtain ⟨xb, hxb⟩ : ∃ xb, xb = wr.heap.size := ⟨_, rfl⟩
      rw [← hxb] at hh hz1 ⊢
      have hxl : xb < u.heap.size := by omega
      have HXB := Lib.hid hh; have HB1 := Lib.hid hb1
      have d0 := cells_at hh 0 (.int .i64 x.id) rfl
      clear hh hb1 hz1 hxb c0 c1 c2 c3
      go_upto_region 5 with (go_at_call 24; (with_reducible refine (HST.out _ HB1.out).mono ?_); rintro e w2 ⟨rfl, hb2⟩; have HB2 := Lib.hid hb2; clear hb2)
      have hw2 := HB2.out.size
      have hh2 := heap_alloc_new w2 (.cells #[.int .i64 x.s.l, .int .i64 x.s.a, .int .i64 x.s.u] 46)
      have hb3 := HB2.out.alloc hw2 (.cells #[.int .i64 x.s.l, .int .i64 x.s.a, .int .i64 x.s.u] 46)
      have hz3 : (w2.alloc (.cells #[.int .i64 x.s.l, .int .i64 x.s.a, .int .i64 x.s.u] 46)).heap.size = w2.heap.size + 1 := by simp
      generalize World.alloc w2 _ = v at *
      obtain ⟨sb, hsb⟩ : ∃ sb, sb = w2.heap.size := ⟨_, rfl⟩
      rw [← hsb] at hh2 hz3 ⊢
      have hsl : sb < v.heap.size := by omega
      have hxv : xb < v.heap.size := by omega
      have hx3 := (hb3.block xb hxl).trans HXB.out
      have HBv := Lib.hid (HB1.out.trans (hb3.mono HB1.out.size))
      have d0 := cells_at hx3 0 (.int .i64 x.id) rfl; have d1 := cells_at hx3 1 (.int .i64 x.s.l) rfl; have d2 := cells_at hx3 2 (.int .i64 x.s.a) rfl; have d3 := cells_at hx3 3 (.int .i64 x.s.u) rfl
      have e0 := cells_at hh2 0 (.int .i64 x.s.l) rfl; have e1 := cells_at hh2 1 (.int .i64 x.s.a) rfl; have e2 := cells_at hh2 2 (.int .i64 x.s.u) rfl
      have hSB : ∀ y, (y = xb ∨ y = sb) → y < v.heap.size := fun y hy => by rcases hy with e | e <;> omega
      have HSB := Lib.hid hSB
      have HD0 := Lib.hid ((Below.refl v.heap.size v).drew)
      obtain ⟨q, hq⟩ : ∃ q, q = decide (now < x.s.u) := ⟨_, rfl⟩
      obtain ⟨wk, hwk⟩ : ∃ wk, wk = wakeS x.s now := ⟨_, rfl⟩
      rw [← hq] at HV1 HV2
      rw [← hwk] at HV3 HV4
      clear hh2 hb3 hz3 hsb hx3 hSB hq hwk HXB HB2 hw2 HST
      refine Lx.wp_region_Y 33 (fun w' => ∃ z, w' = Lx.kept (fun y => y = xb ∨ y = sb) v.drew z) [13, 18, 26, 31] (by kernel_rfl) (by kernel_rfl) (Lx.kept_of (Lx.Keeps.refl _ _)) ?_
      simp only [List.take_succ_cons, List.take_zero, List.drop_succ_cons, List.drop_zero]
      repeat (refine Lx.wpX_step (fun K hK => ?_); first | (refine Lx.opX_free (by rfl) (by rfl) (by rfl) ?_; go_big_quiet_op; refine hK _ _ ?_; clear hK K) | (refine Lx.opX_nil (by rfl) (by rfl) (by rfl) (by rfl) ?_; refine hK _ _ ?_; clear hK K; simp only [Act.put, List.setIfInBounds_toArray, List.set_cons_succ, List.set_cons_zero]))
      refine Lx.wpX_step (fun K hK => ?_)
      refine Lx.opX_law (by rfl) (by rfl) ?_
      go_wp2_with (go_at_call 40; (with_reducible refine (HV1.out _ (HBv.out.trans (HD0.out.mono HBv.out.size))).mono ?_); rintro e w5 ⟨rfl, hb5⟩; have hbk := HD0.out.trans (hb5.mono HD0.out.size); have HB5 := Lib.hid hbk; clear hb5 hbk)
      refine Lx.nq_mk (Lx.kept_of (fun y hy => HB5.out.block y (HSB.out y hy))) (hK _ _ ?_)
      clear hK K
      repeat (refine Lx.wpX_step (fun K hK => ?_); first | (refine Lx.opX_free (by rfl) (by rfl) (by rfl) ?_; go_big_quiet_op; refine hK _ _ ?_; clear hK K) | (refine Lx.opX_nil (by rfl) (by rfl) (by rfl) (by rfl) ?_; refine hK _ _ ?_; clear hK K; simp only [Act.put, List.setIfInBounds_toArray, List.set_cons_succ, List.set_cons_zero]))
      refine Lx.wpX_step (fun K hK => ?_)
      refine Lx.opX_law (by rfl) (by rfl) ?_
      go_wp2_with (go_at_call 74; (with_reducible refine (HV2.out _ (HBv.out.trans (HB5.out.mono HBv.out.size))).mono ?_); rintro e w6 ⟨rfl, hb5⟩; have hbk := HB5.out.trans (hb5.mono HB5.out.size); have HB6 := Lib.hid hbk; clear hb5 hbk)
      refine Lx.nq_mk (Lx.kept_of (fun y hy => HB6.out.block y (HSB.out y hy))) (hK _ _ ?_)
      clear hK K
      repeat (refine Lx.wpX_step (fun K hK => ?_); first | (refine Lx.opX_free (by rfl) (by rfl) (by rfl) ?_; go_big_quiet_op; refine hK _ _ ?_; clear hK K) | (refine Lx.opX_nil (by rfl) (by rfl) (by rfl) (by rfl) ?_; refine hK _ _ ?_; clear hK K; simp only [Act.put, List.setIfInBounds_toArray, List.set_cons_succ, List.set_cons_zero]))
      refine Lx.wpX_step (fun K hK => ?_)
      refine Lx.opX_law (by rfl) (by rfl) ?_
      go_wp2_with (go_at_call 42; (with_reducible refine (HV3.out _ (HBv.out.trans (HB6.out.mono HBv.out.size))).mono ?_); rintro e w7 ⟨rfl, hb5⟩; have hbk := HB6.out.trans (hb5.mono HB6.out.size); have HB7 := Lib.hid hbk; clear hb5 hbk)
      refine Lx.nq_mk (Lx.kept_of (fun y hy => HB7.out.block y (HSB.out y hy))) (hK _ _ ?_)
      clear hK K
      repeat (refine Lx.wpX_step (fun K hK => ?_); first | (refine Lx.opX_free (by rfl) (by rfl) (by rfl) ?_; go_big_quiet_op; refine hK _ _ ?_; clear hK K) | (refine Lx.opX_nil (by rfl) (by rfl) (by rfl) (by rfl) ?_; refine hK _ _ ?_; clear hK K; simp only [Act.put, List.setIfInBounds_toArray, List.set_cons_succ, List.set_cons_zero]))
      refine Lx.wpX_step (fun K hK => ?_)
      refine Lx.opX_law (by rfl) (by rfl) ?_
      go_wp2_with (go_at_call 75; (with_reducible refine (HV4.out _ (HBv.out.trans (HB7.out.mono HBv.out.size))).mono ?_); rintro e w8 ⟨rfl, hb5⟩; have hbk := HB7.out.trans (hb5.mono HB7.out.size); have HB8 := Lib.hid hbk; clear hb5 hbk)
      refine Lx.nq_mk (Lx.kept_of (fun y hy => HB8.out.block y (HSB.out y hy))) (hK _ _ ?_)
      clear hK K
      repeat (refine Lx.wpX_step (fun K hK => ?_); first | (refine Lx.opX_free (by rfl) (by rfl) (by rfl) ?_; go_big_quiet_op; refine hK _ _ ?_; clear hK K) | (refine Lx.opX_nil (by rfl) (by rfl) (by rfl) (by rfl) ?_; refine hK _ _ ?_; clear hK K; simp only [Act.put, List.setIfInBounds_toArray, List.set_cons_succ, List.set_cons_zero]))
      refine Lx.wpX_nil ?_
      have hb9 := HBv.out.trans (HB8.out.mono HBv.out.size)
      have HB9 := Lib.hid hb9
      clear hb9 d0 d1 d2 d3 e0 e1 e2
      go_wp2_with fail
      go_roundg (zs.length - (k + 1))
      case measure => omega
      case rel => exact ⟨k + 1, by go_num, by omega, by omega, HB9⟩
    · have hltz : ¬ (k : Int) < (zs.length : Int) := by omega
      obtain rfl : k = zs.length := by omega
      have HV5 := Lib.hid (govers_c t r d l fs HR.out g h S n₀ st zs HZ.out now wr (Nat.le_trans hn0 hwz) (HS.out.below (HW.out.mono hn0)) ⟨(HW.out.block g hgl).trans HG.out.cell, HG.out.map.below HW.out HG.out.map.lt⟩)
      have HV6 := Lib.hid (fun (u : World) (hu : Below w.heap.size w u) => refovers_c A zs.length c zs (by omega) now u (Lies.up hu.size (Lies.below hu HI.out)))
      have hol := overK_len zs now zs.length
      unfold ListOk at HV5 HV6
      generalize overK zs now zs.length = os at *
      go_wp2_with (first
        | (go_at_call 41; (with_reducible refine (HV5.out).mono ?_); rintro e w2 ⟨A2, c2, rfl, hs2, hb2⟩; have HS2 := Lib.hid hs2; have HB2 := Lib.hid (HW.out.trans (hb2.mono hwz)); clear hs2 hb2)
        | (go_at_call 76; (with_reducible refine (HV6.out _ HB2.out).mono ?_); rintro e w3 ⟨A3, c3, rfl, hs3, hb3⟩; have HS3 := Lib.hid hs3; have HS2' := Lib.hid ((HS2.out.below hb3).more hb3.size); have HB3 := Lib.hid (HB2.out.trans (hb3.mono HB2.out.size)); clear hs3 hb3)
        | (go_at_call 36; (with_reducible refine (sameints_c A2 A3 c2 c3 os (by omega) _ HS2'.out HS3.out).mono ?_); rintro e w4 ⟨rfl, hb4⟩; have HB4 := Lib.hid (HB3.out.trans (hb4.mono HB3.out.size)); clear hb4))
      go_ret
      exact ⟨rfl, HB4.out⟩
end Go.Proofs.YtpchhfhmopmagaaGreat.Rg

/- The document's gauges: New. -/
namespace Go.Proofs.YtpchhfhmopmagaaGreat.Rg
open Go.RowKit Go.Maps Wd Li St Sr Go.Proofs.YtpchhfhmopmagaaGreat.Mp Go.Proofs.YtpchhfhmopmagaaGreat.Cl Go.Proofs.YtpchhfhmopmagaaGreat.So Go.Proofs.YtpchhfhmopmagaaGreat.Tr Go.Proofs.YtpchhfhmopmagaaGreat.Tp Go.Proofs.YtpchhfhmopmagaaGreat.Sw Go.Proofs.YtpchhfhmopmagaaGreat.Id Go.Proofs.YtpchhfhmopmagaaGreat.Ga Go.Proofs.YtpchhfhmopmagaaGreat.Cf Go.Proofs.YtpchhfhmopmagaaGreat.Fi
attribute [local go_sem] run_store_float Lx.opX Rel.oneOk
attribute [local irreducible] Lx.wpX

/-- the rows of the first k classes, as they begin -/
def rowsK (l : List Cls) (now : Int) (k : Nat) : List G := ((sortC l).take k).map (fun c => ⟨c.id, newI c now⟩)
theorem rowsK_succ {l : List Cls} {now : Int} {k : Nat} {x : Cls} (hx : (sortC l)[k]? = some x) : rowsK l now (k + 1) = rowsK l now k ++ [⟨x.id, newI x now⟩] := by
  unfold rowsK
  rw [List.take_add_one, hx, List.map_append]; rfl
theorem rowsK_len (l : List Cls) (now : Int) (k : Nat) : (rowsK l now k).length ≤ k := by
  unfold rowsK
  rw [List.length_map]; exact List.length_take_le _ _
theorem row_info : (Tryz.prog.info? 140).map (fun i => (i.zero, i.size, i.bytes)) = some (some (.agg #[.int .i64 0, .int .i64 0, .int .i64 0, .int .i64 0]), 4, 32) := by kernel_rfl
def RowsOk (zs : List G) (w : World) (e : Ending) (w' : World) : Prop := ∃ A c, e = .returned (.slice A zs.length c) ∧ HoldsG w'.heap.size w' (.slice A zs.length c) zs ∧ Below w.heap.size w w'
theorem refof_nil (id : Int) (w : World) : Calls Tryz.prog 92 #[.slice none 0 0, .int .i64 id] w (RStateOk none w) := refof_c none 0 0 [] (by decide) id w (.inl ⟨rfl, rfl⟩)
theorem news_row {w : World} {g : Nat} {y : G} (h : w.heap[g]? = some (.cells #[.int .i64 y.id, .int .i64 y.s.l, .int .i64 y.s.a, .int .i64 y.s.u] 140 (0, 0))) : Li.News w 4 (.slice (some ⟨g, 0, none⟩) 1 1) 1 y.cells :=
  .inl ⟨⟨g, 0, none⟩, 1, rfl, rfl, fun j u hu => by
    rw [add_zero_at]
    exact cells_at h j u (by unfold G.cells at hu; rw [List.getElem?_toArray]; exact hu)⟩
set_option maxRecDepth 20000 in
set_option maxHeartbeats 4000000 in
theorem refcarry0_c (tpb rule dfl : Int) (A : Option Addr) (na ca : Nat) (Ba : Option Addr) (Bn Bc : Nat) (l : List Cls) (hr : ∀ c ∈ l, rightS c = 0) (hs : ∀ c ∈ l, c.share < 18446744073709551616) (hlen : l.length ≤ 70) (now : Int) (w : World) (hI : Holds w.heap.size w (.slice A na ca) l) :
    Calls Tryz.prog 45 #[.slice none 0 0, .agg #[.int .i64 tpb, .int .i64 rule, .int .i64 dfl, .slice A na ca, .slice Ba Bn Bc], .int .i64 now] w (RowsOk (rowsK l now l.length) w) := by
  obtain ⟨i0, hi, hz0, hz1, hz2⟩ := info_parts row_info
  have hB0 := (Below.refl w.heap.size w).alloc (Nat.le_refl _) (.cells #[.int .i64 tpb, .int .i64 rule, .int .i64 dfl, .slice A na ca, .slice Ba Bn Bc] 25)
  have HB0 := Lib.hid hB0
  have hh := heap_alloc_new w (.cells #[.int .i64 tpb, .int .i64 rule, .int .i64 dfl, .slice A na ca, .slice Ba Bn Bc] 25)
  have HH := Lib.hid hh
  have HI := Lib.hid ((hI.below hB0).up hB0.size)
  have HSL := Lib.hid (sortC_len l)
  have HR := Lib.hid hr; have HS := Lib.hid hs
  clear hB0 hh hI hr hs
  go_enter Tryz.func45, Tryz.ntmps45
  go_upto_region 1 with fail
  generalize World.alloc w _ = U at *
  have x3 := cells_at HH.out 3 (.slice A na ca) rfl
  have HSO := Lib.hid (refsort_c A na ca l (by omega) U HI.out)
  go_wp2_with (go_at_call 68; (with_reducible refine (HSO.out).mono ?_); rintro e w1 ⟨A1, c1, rfl, hcs, hb1⟩; have HCS := Lib.hid hcs; have HB1 := Lib.hid hb1; clear hcs hb1)
  have hws := HB1.out.size
  have HW1 := Lib.hid (HB0.out.trans (HB1.out.mono HB0.out.size))
  clear x3 HSO HI HH
  go_loopg [7, 9] l.length (fun kx s7 s9 wr => ∃ (k : Nat) (B9 : Option Addr) (c9 : Nat), s9 = .int .i64 k ∧ s7 = .slice B9 (rowsK l now k).length c9 ∧ k ≤ l.length ∧ l.length - k ≤ kx ∧ Hid (wr.ownsRow w1.heap.size 140 4 s7 (rowsK l now k).length ((rowsK l now k).flatMap G.cells)) ∧ Hid (Below w1.heap.size w1 wr))
  case atStart => exact ⟨0, none, 0, rfl, rfl, by omega, by omega, Lib.hid (World.ownsRow_nil ..), Lib.hid (Below.refl _ _)⟩
  case round =>
    obtain ⟨k, B9, c9, rfl, rfl, hk, hkx, HO, HW⟩ := hrel
    have hwz := HW.out.size
    by_cases hlt : k < l.length
    · have hltz : (k : Int) < (l.length : Int) := by omega
      obtain ⟨b, off, rfl, hb, hc⟩ := HCS.out (by omega)
      obtain ⟨x, hx⟩ : ∃ x, (sortC l)[k]? = some x := ⟨_, List.getElem?_eq_getElem (by rw [HSL.out]; exact hlt)⟩
      have hcx : ∀ (i : Nat) (v : Value), x.cells[i]? = some v → wr.cell? ⟨b, off + k * 11 + i, none⟩ = some v := fun i v hv => (HW.out.cell (p := ⟨b, off + k * 11 + i, none⟩) hb).trans (hc k x hx i v hv)
      have c0 : wr.cell? ⟨b, off + k * 11, none⟩ = some (.int .i64 x.id) := hcx 0 _ rfl
      have HCX := Lib.hid hcx
      have hxl := sort_at hx
      have HT := Lib.hid (rowsK_succ (now := now) hx)
      have hol := rowsK_len l now k
      have HNW := Lib.hid (fun u => refnew_c x (HS.out x hxl) (HR.out x hxl) now u)
      unfold Cls.agg newI S3.agg at HNW
      have HOF := Lib.hid (fun u => refof_nil x.id u)
      unfold RStateOk at HOF
      simp only [Option.getD_none, Option.isSome_none] at HOF
      unfold S3.nil S3.agg at HOF
      clear hc hx hcx hxl
      generalize hos : rowsK l now k = os at *
      clear hos
      go_upto_region 7 with (go_at_call 92; (with_reducible refine (HOF.out _).mono ?_); rintro e w2 ⟨rfl, hb2⟩; have HB2 := Lib.hid hb2; clear hb2)
      have hw2 := HB2.out.size
      have hb3 := (HB2.out).alloc hw2 (.cells #[.int .i64 0, .int .i64 0, .int .i64 0] 138)
      have hz3 : (w2.alloc (.cells #[.int .i64 0, .int .i64 0, .int .i64 0] 138)).heap.size = w2.heap.size + 1 := by simp
      generalize World.alloc w2 _ = v at *
      have hvs : wr.heap.size ≤ v.heap.size := by omega
      have HBv := Lib.hid hb3
      have hbv : b < v.heap.size := by omega
      have kk : ∀ (i : Nat) (u : Value), x.cells[i]? = some u → v.cell? ⟨b, off + k * 11 + i, none⟩ = some u := fun i u hu => (hb3.cell (p := ⟨b, off + k * 11 + i, none⟩) (by show b < wr.heap.size; omega)).trans (HCX.out i u hu)
      have f0 : v.cell? ⟨b, off + k * 11, none⟩ = some (.int .i64 x.id) := kk 0 _ rfl
      have f1 : v.cell? ⟨b, off + k * 11 + 1, none⟩ = some (.int .i64 x.parent) := kk 1 _ rfl
      have f2 : v.cell? ⟨b, off + k * 11 + 2, none⟩ = some (.float .f64 x.share) := kk 2 _ rfl
      have f3 : v.cell? ⟨b, off + k * 11 + 3, none⟩ = some (.int .i64 x.prio) := kk 3 _ rfl
      have f4 : v.cell? ⟨b, off + k * 11 + 4, none⟩ = some (.int .i64 x.quantum) := kk 4 _ rfl
      have f5 : v.cell? ⟨b, off + k * 11 + 5, none⟩ = some (.int .i64 x.limit) := kk 5 _ rfl
      have f6 : v.cell? ⟨b, off + k * 11 + 6, none⟩ = some (.int .i64 x.weight) := kk 6 _ rfl
      have f7 : v.cell? ⟨b, off + k * 11 + 7, none⟩ = some (.int .i64 x.minIdle) := kk 7 _ rfl
      have f8 : v.cell? ⟨b, off + k * 11 + 8, none⟩ = some (.int .i64 x.maxIdle) := kk 8 _ rfl
      have f9 : v.cell? ⟨b, off + k * 11 + 9, none⟩ = some (.bool x.bounded) := kk 9 _ rfl
      have f10 : v.cell? ⟨b, off + k * 11 + 10, none⟩ = some (.bool x.isolated) := kk 10 _ rfl
      clear hb3 hz3 hw2 HB2 c0 kk
      have HD := Lib.hid ((Below.refl v.heap.size v).drew)
      have HA := Lib.hid (((Below.refl v.heap.size v).alloc (Nat.le_refl _) (.cells #[.int .i64 0, .int .i64 0, .int .i64 0, .int .i64 0] 140)).drew)
      have HN : Hid (((v.alloc (.cells #[.int .i64 0, .int .i64 0, .int .i64 0, .int .i64 0] 140)).drew).heap[v.heap.size]? = some (.cells #[.int .i64 0, .int .i64 0, .int .i64 0, .int .i64 0] 140 (0, 0))) := Lib.hid (heap_alloc_new v _)
      go_region_held3 (fun w' => w'.cell? ⟨b, off + k * 11, none⟩ = some (.int .i64 x.id) ∧ w'.cell? ⟨b, off + k * 11 + 1, none⟩ = some (.int .i64 x.parent) ∧ w'.cell? ⟨b, off + k * 11 + 2, none⟩ = some (.float .f64 x.share) ∧ w'.cell? ⟨b, off + k * 11 + 3, none⟩ = some (.int .i64 x.prio) ∧ w'.cell? ⟨b, off + k * 11 + 4, none⟩ = some (.int .i64 x.quantum) ∧ w'.cell? ⟨b, off + k * 11 + 5, none⟩ = some (.int .i64 x.limit) ∧ w'.cell? ⟨b, off + k * 11 + 6, none⟩ = some (.int .i64 x.weight) ∧ w'.cell? ⟨b, off + k * 11 + 7, none⟩ = some (.int .i64 x.minIdle) ∧ w'.cell? ⟨b, off + k * 11 + 8, none⟩ = some (.int .i64 x.maxIdle) ∧ w'.cell? ⟨b, off + k * 11 + 9, none⟩ = some (.bool x.bounded) ∧ w'.cell? ⟨b, off + k * 11 + 10, none⟩ = some (.bool x.isolated)) (first | (refine ⟨?_, ?_, ?_, ?_, ?_, ?_, ?_, ?_, ?_, ?_, ?_⟩ <;> (refine (Below.cell (w := v) (B := v.heap.size) ?hb ?hp).trans (by assumption); (case hp => exact hbv); (case hb => (repeat' (first | assumption | exact Below.refl _ _ | refine Below.drew ?_ | refine Below.alloc ?_ ?_ _ | refine Below.setCell ?_ ?_ _ | omega | (simp; done) | (simp; omega)))))) | (all_goals (refine (Below.cell (w := v) (B := v.heap.size) ?hb ?hp).trans (by assumption); (case hp => exact hbv); (case hb => (repeat' (first | assumption | exact Below.refl _ _ | refine Below.drew ?_ | refine Below.alloc ?_ ?_ _ | refine Below.setCell ?_ ?_ _ | omega | (simp; done) | (simp; omega))))))) (first
        | (go_at_call 93; (with_reducible refine (HNW.out _).mono ?_); rintro e w3 ⟨rfl, hb4⟩; first | (have hbK := HD.out.trans (hb4.mono HD.out.size); have hbKs := hbK.size) | (have hbK := HA.out.trans (hb4.mono HA.out.size); have hbKs := hbK.size; have hrow := (hb4.block v.heap.size (by simp)).trans HN.out; have r0 := cells_at hrow 0 (.int .i64 0) rfl; have r1 := cells_at hrow 1 (.int .i64 0) rfl; have r2 := cells_at hrow 2 (.int .i64 0) rfl; have r3 := cells_at hrow 3 (.int .i64 0) rfl; have z0 := frozen_at' hrow 0; have z1 := frozen_at' hrow 1; have z2 := frozen_at' hrow 2; have z3 := frozen_at' hrow 3)))
      all_goals
        clear f0 f1 f2 f3 f4 f5 f6 f7 f8 f9 f10 HCX HNW HOF HN HA HD
        first
          | (have hr4 := heap_alloc_new w3 (.cells #[.int .i64 x.id, .int .i64 (hold now), .int .i64 x.maxIdle, .int .i64 0] 140)
             have hb5 := hbK.alloc hbKs (.cells #[.int .i64 x.id, .int .i64 (hold now), .int .i64 x.maxIdle, .int .i64 0] 140)
             generalize World.alloc w3 _ = u4 at *
             obtain ⟨gr, hgr⟩ : ∃ gr, gr = w3.heap.size := ⟨_, rfl⟩
             rw [← hgr] at hr4 ⊢
             clear hgr)
          | (have hr1 := Cf.set_cells hrow 0 (.int .i64 x.id)
             have hr2 := Cf.set_cells hr1 1 (.int .i64 (hold now))
             have hr3 := Cf.set_cells hr2 2 (.int .i64 x.maxIdle)
             have hr4 := Cf.set_cells hr3 3 (.int .i64 0)
             have hb5 : Below v.heap.size v ((((w3.setCell ⟨v.heap.size, 0, none⟩ (.int .i64 x.id)).setCell ⟨v.heap.size, 1, none⟩ (.int .i64 (hold now))).setCell ⟨v.heap.size, 2, none⟩ (.int .i64 x.maxIdle)).setCell ⟨v.heap.size, 3, none⟩ (.int .i64 0)) := by (repeat' (first | assumption | exact Nat.le_refl _ | refine Below.setCell ?_ ?_ _))
             simp only [List.setIfInBounds_toArray, List.set_cons_succ, List.set_cons_zero] at hr4
             clear hr1 hr2 hr3 r0 r1 r2 r3 z0 z1 z2 z3 hrow
             generalize World.setCell _ _ _ = u4 at *
             obtain ⟨gr, hgr⟩ : ∃ gr, gr = v.heap.size := ⟨_, rfl⟩
             rw [← hgr] at hr4 ⊢
             clear hgr)
        have hu4 := hb5.size
        have HB5 := Lib.hid (HBv.out.trans (hb5.mono HBv.out.size))
        have hw4 := HB5.out.size
        have HW5 := Lib.hid (HW.out.trans (HB5.out.mono hwz))
        have HO5 := Lib.hid (own_same (w' := u4) HO.out (fun q hq => HB5.out.block q (HO.out.lt q hq).2))
        have r0 := cells_at hr4 0 (.int .i64 x.id) rfl; have r1 := cells_at hr4 1 (.int .i64 (hold now)) rfl; have r2 := cells_at hr4 2 (.int .i64 x.maxIdle) rfl; have r3 := cells_at hr4 3 (.int .i64 0) rfl
        have HO6 := Lib.hid (HO5.out.alloc (.cells #[.int .i64 x.id, .int .i64 (hold now), .int .i64 x.maxIdle, .int .i64 0] 140))
        have HN6 := Lib.hid (news_row (w := u4.alloc (.cells #[.int .i64 x.id, .int .i64 (hold now), .int .i64 x.maxIdle, .int .i64 0] 140)) (g := u4.heap.size) (y := ⟨x.id, newI x now⟩) (heap_alloc_new u4 (.cells #[.int .i64 x.id, .int .i64 (hold now), .int .i64 x.maxIdle, .int .i64 0] 140)))
        have HB6 := Lib.hid (HW5.out.alloc HW5.out.size (.cells #[.int .i64 x.id, .int .i64 (hold now), .int .i64 x.maxIdle, .int .i64 0] 140))
        have HFL := Lib.hid (show os.flatMap G.cells ++ (⟨x.id, newI x now⟩ : G).cells = (os ++ [(⟨x.id, newI x now⟩ : G)]).flatMap G.cells by simp)
        have HLE := Lib.hid (show os.length + 1 = (os ++ [(⟨x.id, newI x now⟩ : G)]).length by simp)
        clear hbK hbKs hb5 hr4 HBv HB5 HO HO5 HW
        go_upto_region 10 with fail
        go_wp2_with ((at_builtin; go_must (refine Li.wpList_cats (by rfl) _ _ 52 (by rfl) w1.heap.size 140 i0 _ 4 32 Tryz.underlying52 hi hz0 hz1 hz2 rfl (by decide) (by decide) _ _ os.length _ HO6.out (by rfl) _ 1 _ (by rfl) HN6.out (by exact g_one _) (by omega) (by decide) HB6.out.size _ _ HLE.out HFL.out ?_); intro A7 c7 w7 hown7 hb7; have HO7 := Lib.hid hown7; have HB7 := Lib.hid (HB6.out.trans hb7); clear hown7 hb7))
        go_roundg (l.length - (k + 1))
        case measure => omega
        case rel =>
          have HO8 := HO7
          rw [← HLE.out] at HO8
          exact ⟨k + 1, A7, c7, by go_num, by rw [HT.out, ← HLE.out], by omega, by omega, by rw [HT.out, ← HLE.out]; exact HO8, HB7⟩
    · have hltz : ¬ (k : Int) < (l.length : Int) := by omega
      obtain rfl : k = l.length := by omega
      go_wp2
      go_ret
      exact ⟨B9, c9, rfl, lies_own (fun x => rfl) (by decide) HO.out, HW1.out.trans (HW.out.mono HW1.out.size)⟩
end Go.Proofs.YtpchhfhmopmagaaGreat.Rg

/- The document's gauges: New, Sent. -/
namespace Go.Proofs.YtpchhfhmopmagaaGreat.Rg
open Go.RowKit Go.Maps Wd Li St Sr Go.Proofs.YtpchhfhmopmagaaGreat.Mp Go.Proofs.YtpchhfhmopmagaaGreat.Cl Go.Proofs.YtpchhfhmopmagaaGreat.So Go.Proofs.YtpchhfhmopmagaaGreat.Tr Go.Proofs.YtpchhfhmopmagaaGreat.Tp Go.Proofs.YtpchhfhmopmagaaGreat.Sw Go.Proofs.YtpchhfhmopmagaaGreat.Id Go.Proofs.YtpchhfhmopmagaaGreat.Ga Go.Proofs.YtpchhfhmopmagaaGreat.Cf Go.Proofs.YtpchhfhmopmagaaGreat.Fi Go.Proofs.YtpchhfhmopmagaaGreat.Pa Go.Proofs.YtpchhfhmopmagaaGreat.Qu
attribute [local go_sem] run_store_float Lx.opX Rel.oneOk
attribute [local irreducible] Lx.wpX

set_option maxRecDepth 20000 in
set_option maxHeartbeats 1000000 in
theorem refgnew_c (tpb rule dfl : Int) (A : Option Addr) (na ca : Nat) (Ba : Option Addr) (Bn Bc : Nat) (l : List Cls) (hr : ∀ c ∈ l, rightS c = 0) (hs : ∀ c ∈ l, c.share < 18446744073709551616) (hlen : l.length ≤ 70) (now : Int) (w : World) (hI : Holds w.heap.size w (.slice A na ca) l) :
    Calls Tryz.prog 26 #[.agg #[.int .i64 tpb, .int .i64 rule, .int .i64 dfl, .slice A na ca, .slice Ba Bn Bc], .int .i64 now] w (RowsOk (rowsK l now l.length) w) := by
  have hB0 := (Below.refl w.heap.size w).alloc (Nat.le_refl _) (.cells #[.int .i64 tpb, .int .i64 rule, .int .i64 dfl, .slice A na ca, .slice Ba Bn Bc] 25)
  have hh := heap_alloc_new w (.cells #[.int .i64 tpb, .int .i64 rule, .int .i64 dfl, .slice A na ca, .slice Ba Bn Bc] 25)
  have HC := Lib.hid (refcarry0_c tpb rule dfl A na ca Ba Bn Bc l hr hs hlen now (w.alloc (.cells #[.int .i64 tpb, .int .i64 rule, .int .i64 dfl, .slice A na ca, .slice Ba Bn Bc] 25)) ((hI.below hB0).up hB0.size))
  unfold RowsOk at HC
  have HB0 := Lib.hid hB0; have HH := Lib.hid hh
  clear hB0 hh hI hr hs
  go_enter Tryz.func26, Tryz.ntmps26
  go_upto_region 1 with fail
  generalize World.alloc w _ = U at *
  have c0 := cells_at HH.out 0 (.int .i64 tpb) rfl; have c1 := cells_at HH.out 1 (.int .i64 rule) rfl; have c2 := cells_at HH.out 2 (.int .i64 dfl) rfl; have c3 := cells_at HH.out 3 (.slice A na ca) rfl; have c4 := cells_at HH.out 4 (.slice Ba Bn Bc) rfl
  go_wp2_with (go_at_call 45; (with_reducible refine (HC.out).mono ?_); rintro e w1 ⟨A1, c1, rfl, hcs, hb1⟩; have HCS := Lib.hid hcs; have HB1 := Lib.hid hb1; clear hcs hb1)
  go_ret
  exact ⟨A1, c1, rfl, HCS.out, HB0.out.trans (HB1.out.mono HB0.out.size)⟩

theorem wids_in {l : List Cls} {leaf i : Int} (h : i ∈ wids l leaf) : i ∈ ids l := by
  unfold wids at h
  obtain ⟨x, _, rfl⟩ := List.mem_map.1 h
  by_cases hn : x.1.id ∈ ids l
  · exact hn
  · have := x.2; rw [at_none.2 hn] at this; cases this
/-- what a packet does to one row -/
def putG (l : List Cls) (tpb leaf size now : Int) (x : G) : G := if x.id ∈ wids l leaf then ⟨x.id, sentI x.s ((at? l x.id).getD ⟨0, 0, 0, 0, 0, 0, 0, 0, 0, false, false⟩) (exactS tpb (uAt l x.id : Int) size) now⟩ else x
theorem put_snoc {l : List Cls} {tpb leaf size now : Int} {zs : List G} {k : Nat} {x : G} (hx : zs[k]? = some x) : (zs.take (k + 1)).map (putG l tpb leaf size now) = (zs.take k).map (putG l tpb leaf size now) ++ [putG l tpb leaf size now x] := by
  rw [List.take_add_one, hx, List.map_append]; rfl
set_option maxRecDepth 20000 in
set_option maxHeartbeats 4000000 in
theorem refgsent_c (tpb rule dfl : Int) (A : Option Addr) (ca : Nat) (Ba : Option Addr) (Bn Bc : Nat) (l : List Cls) (R : Tp.Tree l) (hs : ∀ c ∈ l, c.share < 18446744073709551616) (zs : List G) (hz : zs.length ≤ 1024) (Z : Option Addr) (zn zc : Nat) (leaf size now : Int) (hsz : (Lit.int .i64 size).wf = true) (w : World) (hI : Holds w.heap.size w (.slice A l.length ca) l) (hZ : HoldsG w.heap.size w (.slice Z zn zc) zs) :
    Calls Tryz.prog 29 #[.slice Z zn zc, .agg #[.int .i64 tpb, .int .i64 rule, .int .i64 dfl, .slice A l.length ca, .slice Ba Bn Bc], .int .i64 leaf, .int .i64 size, .int .i64 now] w (RowsOk (zs.map (putG l tpb leaf size now)) w) := by
  obtain ⟨i0, hi, hz0, hz1, hz2⟩ := info_parts row_info
  obtain ⟨rfl, _⟩ := Lies.parts hZ
  have hl64 := R.le
  have hB0 := (Below.refl w.heap.size w).alloc (Nat.le_refl _) (.cells #[.int .i64 tpb, .int .i64 rule, .int .i64 dfl, .slice A l.length ca, .slice Ba Bn Bc] 25)
  have hh := heap_alloc_new w (.cells #[.int .i64 tpb, .int .i64 rule, .int .i64 dfl, .slice A l.length ca, .slice Ba Bn Bc] 25)
  have hz0' : (w.alloc (.cells #[.int .i64 tpb, .int .i64 rule, .int .i64 dfl, .slice A l.length ca, .slice Ba Bn Bc] 25)).heap.size = w.heap.size + 1 := by simp
  have HB0 := Lib.hid hB0; have HH := Lib.hid hh; have HI := Lib.hid ((hI.below hB0).up hB0.size); have HZ := Lib.hid (Lies.up hB0.size (Lies.below hB0 hZ))
  have HS := Lib.hid hs; have HR := Lib.hid R
  clear hB0 hh hI hZ hs R
  go_enter Tryz.func29, Tryz.ntmps29
  go_upto_region 1 with fail
  generalize World.alloc w _ = U at *
  obtain ⟨cb, hcb⟩ : ∃ cb, cb = w.heap.size := ⟨_, rfl⟩
  rw [← hcb] at HH ⊢
  have hcbU : cb < U.heap.size := by omega
  have hcbw : w.heap.size ≤ cb := by omega
  clear hcb hz0'
  have c3 := cells_at HH.out 3 (.slice A l.length ca) rfl
  have HP := Lib.hid (refpath_c A ca l (.inr HR.out) 65 leaf (wids_len l leaf) U HI.out)
  unfold PathOk ListOk at HP
  have hwl := wids_len l leaf
  obtain ⟨ps, hps⟩ : ∃ ps, ps = wids l leaf := ⟨_, rfl⟩
  rw [← hps] at HP hwl
  have HPS := Lib.hid hps
  clear hps
  go_wp2_with (go_at_call 70; (with_reducible refine (HP.out).mono ?_); rintro e w1 ⟨⟨Ap, cp, rfl, hp1, hb1⟩, _⟩; have HP1 := Lib.hid hp1; have HB1 := Lib.hid hb1; clear hp1 hb1)
  have hws := HB1.out.size
  have HW1 := Lib.hid (HB0.out.trans (HB1.out.mono HB0.out.size))
  have HI1 := Lib.hid ((HI.out.below HB1.out).up hws)
  have HZ1 := Lib.hid (Lies.up hws (Lies.below HB1.out HZ.out))
  have HH1 := Lib.hid ((HB1.out.block cb hcbU).trans HH.out)
  have hcb1 : cb < w1.heap.size := by omega
  clear c3 HP HI HZ HH HB1
  go_loopg [11, 13] zs.length (fun kx s11 s13 wr => ∃ (k : Nat) (B9 : Option Addr) (c9 : Nat), s13 = .int .i64 k ∧ s11 = .slice B9 ((zs.take k).map (putG l tpb leaf size now)).length c9 ∧ k ≤ zs.length ∧ zs.length - k ≤ kx ∧ Hid (wr.ownsRow w1.heap.size 140 4 s11 ((zs.take k).map (putG l tpb leaf size now)).length (((zs.take k).map (putG l tpb leaf size now)).flatMap G.cells)) ∧ Hid (Below w1.heap.size w1 wr))
  case atStart => exact ⟨0, none, 0, rfl, rfl, by omega, by omega, Lib.hid (World.ownsRow_nil ..), Lib.hid (Below.refl _ _)⟩
  case round =>
    obtain ⟨k, B9, c9, rfl, rfl, hk, hkx, HO, HW⟩ := hrel
    have hwz := HW.out.size
    by_cases hlt : k < zs.length
    · have hltz : (k : Int) < (zs.length : Int) := by omega
      obtain ⟨_, hcs⟩ := Lies.parts HZ1.out
      obtain ⟨zb, zo, rfl, hzb, hzc⟩ := hcs (by omega)
      obtain ⟨x, hx⟩ : ∃ x, zs[k]? = some x := ⟨_, List.getElem?_eq_getElem hlt⟩
      have hcx : ∀ (i : Nat) (v : Value), x.cells[i]? = some v → wr.cell? ⟨zb, zo + k * 4 + i, none⟩ = some v := fun i v hv => (HW.out.cell (p := ⟨zb, zo + k * 4 + i, none⟩) hzb).trans (hzc k x hx i v hv)
      have c0 : wr.cell? ⟨zb, zo + k * 4, none⟩ = some (.int .i64 x.id) := hcx 0 _ rfl
      have c1 := hcx 1 _ rfl; have c2 := hcx 2 _ rfl; have c3 := hcx 3 _ rfl
      have HT := Lib.hid (put_snoc (l := l) (tpb := tpb) (leaf := leaf) (size := size) (now := now) hx)
      have hol : ((zs.take k).map (putG l tpb leaf size now)).length ≤ 1024 := by rw [List.length_map]; exact Nat.le_trans (List.length_take_le _ _) (by omega)
      clear hcs hzc hx hcx
      obtain ⟨os, hos⟩ : ∃ os, os = (zs.take k).map (putG l tpb leaf size now) := ⟨_, rfl⟩
      rw [← hos] at HO HT hol ⊢
      clear hos
      go_upto_region 7 with fail
      have hh := heap_alloc_new wr (.cells #[.int .i64 x.id, .int .i64 x.s.l, .int .i64 x.s.a, .int .i64 x.s.u] 140)
      have hb1 := HW.out.alloc hwz (.cells #[.int .i64 x.id, .int .i64 x.s.l, .int .i64 x.s.a, .int .i64 x.s.u] 140)
      have hb2 := (Below.refl wr.heap.size wr).alloc (Nat.le_refl _) (.cells #[.int .i64 x.id, .int .i64 x.s.l, .int .i64 x.s.a, .int .i64 x.s.u] 140)
      have hz1' : (wr.alloc (.cells #[.int .i64 x.id, .int .i64 x.s.l, .int .i64 x.s.a, .int .i64 x.s.u] 140)).heap.size = wr.heap.size + 1 := by simp
      generalize World.alloc wr _ = v at *
      obtain ⟨xb, hxb⟩ : ∃ xb, xb = wr.heap.size := ⟨_, rfl⟩
      rw [← hxb] at hh hz1' ⊢
      have hxl : xb < v.heap.size := by omega
      have HXB := Lib.hid hh; have HBv := Lib.hid hb1; have HB2 := Lib.hid hb2
      have d0 := cells_at hh 0 (.int .i64 x.id) rfl
      have hwv := hb1.size
      have HAS := Lib.hid (has_c Ap cp w1.heap.size ps x.id (by omega) v (HP1.out.below hb1))
      have hxw : wr.heap.size ≤ xb := by omega
      clear hh hb1 hb2 c0 c1 c2 c3 hxb hz1'
      by_cases hm : x.id ∈ ps
      · rw [decide_eq_true hm] at HAS
        go_upto_region 8 with (go_at_call 27; (with_reducible refine (HAS.out).mono ?_); rintro e w' ⟨rfl, rfl⟩)
        have hxi : x.id ∈ ids l := (wids_in (by rw [← HPS.out]; exact hm))
        obtain ⟨i, c, hfi, hci, hai⟩ : ∃ (i : Nat) (c : Cls), findC l x.id = (i : Int) ∧ l[i]? = some c ∧ at? l x.id = some c := by
          rcases find_at (zs := l) (id := x.id) with ⟨_, ha⟩ | ⟨i, c, h1, h2, h3⟩
          · exact absurd hxi (at_none.1 ha)
          · exact ⟨i, c, h1, h2, h3⟩
        have hcm := List.mem_of_getElem? hci
        have hil := (List.getElem?_eq_some_iff.1 hci).1
        have hilz : (0 : Int) ≤ (i : Int) ∧ (i : Int) < (l.length : Int) := by omega
        obtain ⟨_, hcs⟩ := holds_parts HI1.out
        obtain ⟨b, off, rfl, hb, hc⟩ := hcs (by omega)
        have kk : ∀ (j : Nat) (u : Value), c.cells[j]? = some u → v.cell? ⟨b, off + i * 11 + j, none⟩ = some u := fun j u hu => (HBv.out.cell (p := ⟨b, off + i * 11 + j, none⟩) hb).trans (hc i c hci j u hu)
        have f0 : v.cell? ⟨b, off + i * 11, none⟩ = some (.int .i64 c.id) := kk 0 _ rfl
        have f1 : v.cell? ⟨b, off + i * 11 + 1, none⟩ = some (.int .i64 c.parent) := kk 1 _ rfl
        have f2 : v.cell? ⟨b, off + i * 11 + 2, none⟩ = some (.float .f64 c.share) := kk 2 _ rfl
        have f3 : v.cell? ⟨b, off + i * 11 + 3, none⟩ = some (.int .i64 c.prio) := kk 3 _ rfl
        have f4 : v.cell? ⟨b, off + i * 11 + 4, none⟩ = some (.int .i64 c.quantum) := kk 4 _ rfl
        have f5 : v.cell? ⟨b, off + i * 11 + 5, none⟩ = some (.int .i64 c.limit) := kk 5 _ rfl
        have f6 : v.cell? ⟨b, off + i * 11 + 6, none⟩ = some (.int .i64 c.weight) := kk 6 _ rfl
        have f7 : v.cell? ⟨b, off + i * 11 + 7, none⟩ = some (.int .i64 c.minIdle) := kk 7 _ rfl
        have f8 : v.cell? ⟨b, off + i * 11 + 8, none⟩ = some (.int .i64 c.maxIdle) := kk 8 _ rfl
        have f9 : v.cell? ⟨b, off + i * 11 + 9, none⟩ = some (.bool c.bounded) := kk 9 _ rfl
        have f10 : v.cell? ⟨b, off + i * 11 + 10, none⟩ = some (.bool c.isolated) := kk 10 _ rfl
        have e0 := cells_at ((HBv.out.block cb hcb1).trans HH1.out) 0 (.int .i64 tpb) rfl; have e3 := cells_at ((HBv.out.block cb hcb1).trans HH1.out) 3 (.slice (some ⟨b, off, none⟩) l.length ca) rfl
        have d1 := cells_at HXB.out 1 (.int .i64 x.s.l) rfl; have d2 := cells_at HXB.out 2 (.int .i64 x.s.a) rfl; have d3 := cells_at HXB.out 3 (.int .i64 x.s.u) rfl
        have HFD := Lib.hid (fun (u : World) (hu : Below w1.heap.size w1 u) => reffind_c (some ⟨b, off, none⟩) l.length ca u.heap.size l x.id (by omega) u ((HI1.out.below hu).up hu.size))
        rw [hfi] at HFD
        have HTM := Lib.hid (fun (u : World) (hu : Below w1.heap.size w1 u) => rqtime_c (some ⟨b, off, none⟩) ca l HS.out (by omega) tpb x.id size hsz u ((HI1.out.below hu).up hu.size))
        have HPG := Lib.hid (show putG l tpb leaf size now x = ⟨x.id, sentI x.s c (exactS tpb (uAt l x.id : Int) size) now⟩ by unfold putG; rw [← HPS.out, if_pos hm, hai]; rfl)
        have hright : rightS c = 0 := HR.out.right c hcm
        have HSN := Lib.hid (fun u tm => refsent_c x.s c (HS.out c hcm) hright tm now u)
        unfold Cls.agg S3.agg at HSN
        have hS : ∀ y, (y = xb ∨ y = cb ∨ y = b) → y < v.heap.size := fun y hy => by rcases hy with e | e | e <;> omega
        have HSS := Lib.hid hS
        have HD0 := Lib.hid ((Below.refl v.heap.size v).drew)
        rw [HPG.out] at HT
        generalize exactS tpb (uAt l x.id : Int) size = tm at *
        obtain ⟨sn, hsn⟩ : ∃ sn, sn = sentI x.s c tm now := ⟨_, rfl⟩
        have HSN' := Lib.hid (fun u => HSN.out u tm)
        rw [← hsn] at HSN' HT
        clear hxi hfi hai hci hcm hcs hb hc kk hS hsn HSN hright HAS HPG hzb hil
        refine Lx.wp_region_Y 22 (fun w' => ∃ z, w' = Lx.kept (fun y => y = xb ∨ y = cb ∨ y = b) v.drew z) [8, 18, 20] (by kernel_rfl) (by kernel_rfl) (Lx.kept_of (Lx.Keeps.refl _ _)) ?_
        simp only [List.take_succ_cons, List.take_zero, List.drop_succ_cons, List.drop_zero]
        repeat (refine Lx.wpX_step (fun K hK => ?_); first | (refine Lx.opX_free (by rfl) (by rfl) (by rfl) ?_; go_big_quiet_op; refine hK _ _ ?_; clear hK K) | (refine Lx.opX_nil (by rfl) (by rfl) (by rfl) (by rfl) ?_; refine hK _ _ ?_; clear hK K; simp only [Act.put, List.setIfInBounds_toArray, List.set_cons_succ, List.set_cons_zero]))
        refine Lx.wpX_step (fun K hK => ?_)
        refine Lx.opX_law (by rfl) (by rfl) ?_
        go_wp2_with (go_at_call 72; (with_reducible refine (HFD.out _ (HBv.out.trans (HD0.out.mono HBv.out.size))).mono ?_); rintro e w' ⟨rfl, rfl⟩)
        refine Lx.nq_mk (Lx.kept_of (Lx.Keeps.refl _ _)) (hK _ _ ?_)
        clear hK K
        repeat (refine Lx.wpX_step (fun K hK => ?_); first | (refine Lx.opX_free (by rfl) (by rfl) (by rfl) ?_; go_big_quiet_op; refine hK _ _ ?_; clear hK K) | (refine Lx.opX_nil (by rfl) (by rfl) (by rfl) (by rfl) ?_; refine hK _ _ ?_; clear hK K; simp only [Act.put, List.setIfInBounds_toArray, List.set_cons_succ, List.set_cons_zero]))
        refine Lx.wpX_step (fun K hK => ?_)
        refine Lx.opX_law (by rfl) (by rfl) ?_
        go_wp2_with (go_at_call 73; (with_reducible refine (HTM.out _ (HBv.out.trans (HD0.out.mono HBv.out.size))).mono ?_); rintro e w5 ⟨rfl, hb5⟩; have hbk := HD0.out.trans (hb5.mono HD0.out.size); have HB5 := Lib.hid hbk; clear hb5 hbk)
        refine Lx.nq_mk (Lx.kept_of (fun y hy => HB5.out.block y (HSS.out y hy))) (hK _ _ ?_)
        clear hK K
        repeat (refine Lx.wpX_step (fun K hK => ?_); first | (refine Lx.opX_free (by rfl) (by rfl) (by rfl) ?_; go_big_quiet_op; refine hK _ _ ?_; clear hK K) | (refine Lx.opX_nil (by rfl) (by rfl) (by rfl) (by rfl) ?_; refine hK _ _ ?_; clear hK K; simp only [Act.put, List.setIfInBounds_toArray, List.set_cons_succ, List.set_cons_zero]))
        refine Lx.wpX_step (fun K hK => ?_)
        refine Lx.opX_law (by rfl) (by rfl) ?_
        go_wp2_with (go_at_call 71; (with_reducible refine (HSN'.out _).mono ?_); rintro e w6 ⟨rfl, hb5⟩; have hbk := HB5.out.trans (hb5.mono HB5.out.size); have HB6 := Lib.hid hbk; clear hb5 hbk)
        refine Lx.nq_mk (Lx.kept_of (fun y hy => HB6.out.block y (HSS.out y hy))) (hK _ _ ?_)
        clear hK K
        repeat (refine Lx.wpX_step (fun K hK => ?_); first | (refine Lx.opX_free (by rfl) (by rfl) (by rfl) ?_; go_big_quiet_op; refine hK _ _ ?_; clear hK K) | (refine Lx.opX_nil (by rfl) (by rfl) (by rfl) (by rfl) ?_; refine hK _ _ ?_; clear hK K; simp only [Act.put, List.setIfInBounds_toArray, List.set_cons_succ, List.set_cons_zero]))
        refine Lx.wpX_nil ?_
        have hrow := (HB6.out.block xb hxl).trans HXB.out
        clear d0 d1 d2 d3 e0 e3 f0 f1 f2 f3 f4 f5 f6 f7 f8 f9 f10
        have r0 := cells_at hrow 0 (.int .i64 x.id) rfl; have r1 := cells_at hrow 1 (.int .i64 x.s.l) rfl; have r2 := cells_at hrow 2 (.int .i64 x.s.a) rfl; have r3 := cells_at hrow 3 (.int .i64 x.s.u) rfl; have z0 := frozen_at' hrow 0; have z1 := frozen_at' hrow 1; have z2 := frozen_at' hrow 2; have z3 := frozen_at' hrow 3
        go_upto_region 9 with fail
        have hr1 := Cf.set_cells hrow 1 (.int .i64 sn.l)
        have hr2 := Cf.set_cells hr1 2 (.int .i64 sn.a)
        have hr4 := Cf.set_cells hr2 3 (.int .i64 sn.u)
        have hvx : wr.heap.size ≤ xb := hxw
        have hb5 : Below wr.heap.size wr (((w6.setCell ⟨xb, 1, none⟩ (.int .i64 sn.l)).setCell ⟨xb, 2, none⟩ (.int .i64 sn.a)).setCell ⟨xb, 3, none⟩ (.int .i64 sn.u)) := (((HB2.out.trans (HB6.out.mono HB2.out.size)).setCell (p := ⟨xb, 1, none⟩) hvx _).setCell (p := ⟨xb, 2, none⟩) hvx _).setCell (p := ⟨xb, 3, none⟩) hvx _
        simp only [List.setIfInBounds_toArray, List.set_cons_succ, List.set_cons_zero] at hr4
        clear hr1 hr2 r0 r1 r2 r3 z0 z1 z2 z3 hrow
        generalize World.setCell _ _ _ = u4 at *
        have hu4 := hb5.size
        have HW5 := Lib.hid (HW.out.trans (hb5.mono hwz))
        have HO5 := Lib.hid (own_same (w' := u4) HO.out (fun q hq => hb5.block q (HO.out.lt q hq).2))
        have r0 := cells_at hr4 0 (.int .i64 x.id) rfl; have r1 := cells_at hr4 1 (.int .i64 sn.l) rfl; have r2 := cells_at hr4 2 (.int .i64 sn.a) rfl; have r3 := cells_at hr4 3 (.int .i64 sn.u) rfl
        have HO6 := Lib.hid (HO5.out.alloc (.cells #[.int .i64 x.id, .int .i64 sn.l, .int .i64 sn.a, .int .i64 sn.u] 140))
        have HN6 := Lib.hid (news_row (w := u4.alloc (.cells #[.int .i64 x.id, .int .i64 sn.l, .int .i64 sn.a, .int .i64 sn.u] 140)) (g := u4.heap.size) (y := ⟨x.id, sn⟩) (heap_alloc_new u4 (.cells #[.int .i64 x.id, .int .i64 sn.l, .int .i64 sn.a, .int .i64 sn.u] 140)))
        have HB6' := Lib.hid (HW5.out.alloc HW5.out.size (.cells #[.int .i64 x.id, .int .i64 sn.l, .int .i64 sn.a, .int .i64 sn.u] 140))
        clear hb5 hr4 HO5
        have HFL := Lib.hid (show os.flatMap G.cells ++ (⟨x.id, sn⟩ : G).cells = (os ++ [(⟨x.id, sn⟩ : G)]).flatMap G.cells by simp)
        have HLE := Lib.hid (show os.length + 1 = (os ++ [(⟨x.id, sn⟩ : G)]).length by simp)
        clear HO HW
        go_wp2_with ((at_builtin; go_must (refine Li.wpList_cats (by rfl) _ _ 52 (by rfl) w1.heap.size 140 i0 _ 4 32 Tryz.underlying52 hi hz0 hz1 hz2 rfl (by decide) (by decide) _ _ os.length _ HO6.out (by rfl) _ 1 _ (by rfl) HN6.out (by exact g_one _) (by omega) (by decide) HB6'.out.size _ _ HLE.out HFL.out ?_); intro A7 c7 w7 hown7 hb7; have HO7 := Lib.hid hown7; have HB7 := Lib.hid (HB6'.out.trans hb7); clear hown7 hb7))
        go_roundg (zs.length - (k + 1))
        case measure => omega
        case rel =>
          have HO8 := HO7
          rw [← HLE.out] at HO8
          exact ⟨k + 1, A7, c7, by go_num, by rw [HT.out, ← HLE.out], by omega, by omega, by rw [HT.out, ← HLE.out]; exact HO8, HB7⟩
      · rw [decide_eq_false hm] at HAS
        have HPG := Lib.hid (show putG l tpb leaf size now x = x by unfold putG; rw [← HPS.out, if_neg hm])
        rw [HPG.out] at HT
        have hrow := HXB.out
        have hb5 := HB2.out
        have r0 := d0; have r1 := cells_at hrow 1 (.int .i64 x.s.l) rfl; have r2 := cells_at hrow 2 (.int .i64 x.s.a) rfl; have r3 := cells_at hrow 3 (.int .i64 x.s.u) rfl
        have HO5 := Lib.hid (own_same (w' := v) HO.out (fun q hq => hb5.block q (HO.out.lt q hq).2))
        have HO6 := Lib.hid (HO5.out.alloc (.cells #[.int .i64 x.id, .int .i64 x.s.l, .int .i64 x.s.a, .int .i64 x.s.u] 140))
        have HN6 := Lib.hid (news_row (w := v.alloc (.cells #[.int .i64 x.id, .int .i64 x.s.l, .int .i64 x.s.a, .int .i64 x.s.u] 140)) (g := v.heap.size) (y := x) (heap_alloc_new v (.cells #[.int .i64 x.id, .int .i64 x.s.l, .int .i64 x.s.a, .int .i64 x.s.u] 140)))
        have HB6' := Lib.hid (HBv.out.alloc HBv.out.size (.cells #[.int .i64 x.id, .int .i64 x.s.l, .int .i64 x.s.a, .int .i64 x.s.u] 140))
        clear hrow hb5 HO5
        go_upto_region 9 with (go_at_call 27; (with_reducible refine (HAS.out).mono ?_); rintro e w' ⟨rfl, rfl⟩)
        have HFL := Lib.hid (show os.flatMap G.cells ++ x.cells = (os ++ [x]).flatMap G.cells by simp)
        have HLE := Lib.hid (show os.length + 1 = (os ++ [x]).length by simp)
        clear HO HW
        go_wp2_with ((at_builtin; go_must (refine Li.wpList_cats (by rfl) _ _ 52 (by rfl) w1.heap.size 140 i0 _ 4 32 Tryz.underlying52 hi hz0 hz1 hz2 rfl (by decide) (by decide) _ _ os.length _ HO6.out (by rfl) _ 1 _ (by rfl) HN6.out (by exact g_one _) (by omega) (by decide) HB6'.out.size _ _ HLE.out HFL.out ?_); intro A7 c7 w7 hown7 hb7; have HO7 := Lib.hid hown7; have HB7 := Lib.hid (HB6'.out.trans hb7); clear hown7 hb7))
        go_roundg (zs.length - (k + 1))
        case measure => omega
        case rel =>
          have HO8 := HO7
          rw [← HLE.out] at HO8
          exact ⟨k + 1, A7, c7, by go_num, by rw [HT.out, ← HLE.out], by omega, by omega, by rw [HT.out, ← HLE.out]; exact HO8, HB7⟩
    · have hltz : ¬ (k : Int) < (zs.length : Int) := by omega
      obtain rfl : k = zs.length := by omega
      rw [List.take_length] at HO ⊢
      obtain ⟨os, hos⟩ : ∃ os, os = zs.map (putG l tpb leaf size now) := ⟨_, rfl⟩
      rw [← hos] at HO ⊢
      have HOS := Lib.hid hos
      clear hos
      go_wp2
      go_ret
      have hlo := lies_own (cells := G.cells) (fun x => rfl) (by decide) HO.out
      rw [HOS.out] at hlo
      exact ⟨B9, c9, by rw [← HOS.out]; rfl, hlo, HW1.out.trans (HW.out.mono HW1.out.size)⟩
end Go.Proofs.YtpchhfhmopmagaaGreat.Rg

/- Facts for the law GaugePlays: the path has no class twice, what a packet does to the rows, Sent of no leaf, New of no set. -/
namespace Go.Proofs.YtpchhfhmopmagaaGreat.Rg
open Go.RowKit Go.Maps Wd Li St Sr Go.Proofs.YtpchhfhmopmagaaGreat.Mp Go.Proofs.YtpchhfhmopmagaaGreat.Cl Go.Proofs.YtpchhfhmopmagaaGreat.So Go.Proofs.YtpchhfhmopmagaaGreat.Tr Go.Proofs.YtpchhfhmopmagaaGreat.Tp Go.Proofs.YtpchhfhmopmagaaGreat.Sw Go.Proofs.YtpchhfhmopmagaaGreat.Id Go.Proofs.YtpchhfhmopmagaaGreat.Ga Go.Proofs.YtpchhfhmopmagaaGreat.Cf Go.Proofs.YtpchhfhmopmagaaGreat.Fi Go.Proofs.YtpchhfhmopmagaaGreat.Pa Go.Proofs.YtpchhfhmopmagaaGreat.Qu
attribute [local go_sem] run_store_float Lx.opX Rel.oneOk
attribute [local irreducible] Lx.wpX

theorem wids_nodup {l : List Cls} (F0 : Fit l) (a : Int) : ∀ (s p : List Int), wids l a = p ++ s → s.Nodup
  | [], _, _ => List.nodup_nil
  | i :: t, p, h => by
    refine List.nodup_cons.2 ⟨fun hi => ?_, wids_nodup F0 a t (p ++ [i]) (by rw [h]; simp)⟩
    obtain ⟨p', t', e⟩ := List.append_of_mem hi
    have h1 := wids_tail F0 p a i t h
    have h2 := wids_tail F0 (p ++ i :: p') a i t' (by rw [h, e]; simp)
    have h3 : i :: t = i :: t' := h1.symm.trans h2
    have h4 := congrArg List.length h3
    rw [e] at h4
    simp at h4
    omega
theorem sentM_once {l : List Cls} {tpb size now : Int} : ∀ (pre : List (Ci l)) (st : Int → Option S3), (pre.map (fun x => x.1.id)).Nodup → ∀ x ∈ pre, sentM l tpb size now st pre x.1.id = some (sentI ((st x.1.id).getD S3.nil) x.1 (exactS tpb (uAt l x.1.id : Int) size) now)
  | [], _, _, x, hx => absurd hx (by simp)
  | y :: ys, st, hn, x, hx => by
    have e : sentM l tpb size now st (y :: ys) = sentM l tpb size now (stepM l tpb size now st y) ys := rfl
    rw [e]
    rw [List.map_cons, List.nodup_cons] at hn
    rcases List.mem_cons.1 hx with rfl | hx'
    · rw [(sentM_at ys _).2 hn.1]
      unfold stepM
      rw [if_pos rfl]
    · rw [sentM_once ys _ hn.2 x hx']
      have hne : x.1.id ≠ y.1.id := fun h => hn.1 (by rw [← h]; exact List.mem_map.2 ⟨x, hx', rfl⟩)
      have : stepM l tpb size now st y x.1.id = st x.1.id := by unfold stepM; rw [if_neg hne]
      rw [this]
theorem put_id {l : List Cls} {tpb leaf size now : Int} (x : G) : (putG l tpb leaf size now x).id = x.id := by
  unfold putG; split <;> rfl
theorem Agree.put {l : List Cls} (R : Tp.Tree l) {st : Int → Option S3} {zs : List G} (h : Agree l st zs) (tpb leaf size now : Int) : Agree l (sentM l tpb size now st (way l leaf)) (zs.map (putG l tpb leaf size now)) := by
  refine ⟨?_, fun k y hy => ?_⟩
  · rw [← h.ids, List.map_map]
    exact List.map_congr_left (fun x _ => put_id x)
  · rw [List.getElem?_map] at hy
    cases hx : zs[k]? with
    | none => rw [hx] at hy; cases hy
    | some x =>
      rw [hx] at hy
      obtain rfl : putG l tpb leaf size now x = y := by simpa using hy
      rw [put_id]
      have hs := h.st k x hx
      by_cases hm : x.id ∈ wids l leaf
      · have hm' := hm
        unfold wids at hm'
        obtain ⟨z, hz, he⟩ := List.mem_map.1 hm'
        have hn : ((way l leaf).map (fun x => x.1.id)).Nodup := wids_nodup (.inr R) leaf _ [] rfl
        have := sentM_once (tpb := tpb) (size := size) (now := now) (way l leaf) st hn z hz
        have hz2 := z.2
        rw [he] at this hz2
        rw [this, hs]
        unfold putG
        rw [if_pos hm, hz2]; rfl
      · rw [(sentM_at (way l leaf) st).2 (by unfold wids at hm; exact hm), hs]
        unfold putG
        rw [if_neg hm]
theorem Agree.new {l : List Cls} (R : Tp.Tree l) (now : Int) : Agree l (st0 l now) (rowsK l now l.length) := by
  have e : rowsK l now l.length = (sortC l).map (fun c => (⟨c.id, newI c now⟩ : G)) := by
    unfold rowsK; rw [← sortC_len l, List.take_length]
  rw [e]
  refine ⟨?_, fun k x hx => ?_⟩
  · rw [List.map_map]; rfl
  · rw [List.getElem?_map] at hx
    cases hc : (sortC l)[k]? with
    | none => rw [hc] at hx; cases hx
    | some c =>
      rw [hc] at hx
      obtain rfl : (⟨c.id, newI c now⟩ : G) = x := by simpa using hx
      have hcl := sort_at hc
      unfold st0
      rw [at_is R.good hcl]; rfl
/-- a slice of structs outlives a store into a map -/
theorem lies_map {α : Type} {z : Nat} {cells : α → List Value} (hc : ∀ x, (cells x).length = z) (hz : 0 < z) {N : Nat} {w w' : World} {sv : Value} {zs : List α} {h : Nat} (hl : Lies z cells N w sv zs) (hm : ∃ es m, w.heap[h]? = some (.map es m)) (hb : ∀ q, q < N → q ≠ h → w'.heap[q]? = w.heap[q]?) : Lies z cells N w' sv zs := by
  rcases hl with h0 | ⟨b, off, c, e, hbn, hcs⟩
  · exact .inl h0
  · refine .inr ⟨b, off, c, e, hbn, fun j x hx i v hv => ?_⟩
    have h1 := hcs j x hx i v hv
    have hne : b ≠ h := fun e => by
      obtain ⟨es, m, hm⟩ := hm
      simp [World.cell?, e, hm] at h1
    show w'.cell? _ = _
    rw [← h1]
    unfold World.cell?
    rw [show w'.heap[b]? = w.heap[b]? from hb b hbn hne]
end Go.Proofs.YtpchhfhmopmagaaGreat.Rg

/- The law GaugePlays. -/
namespace Go.Proofs.YtpchhfhmopmagaaGreat.Rg
open Go.RowKit Go.Maps Wd Li St Sr Go.Proofs.YtpchhfhmopmagaaGreat.Mp Go.Proofs.YtpchhfhmopmagaaGreat.Cl Go.Proofs.YtpchhfhmopmagaaGreat.So Go.Proofs.YtpchhfhmopmagaaGreat.Tr Go.Proofs.YtpchhfhmopmagaaGreat.Tp Go.Proofs.YtpchhfhmopmagaaGreat.Sw Go.Proofs.YtpchhfhmopmagaaGreat.Id Go.Proofs.YtpchhfhmopmagaaGreat.Ga Go.Proofs.YtpchhfhmopmagaaGreat.Cf Go.Proofs.YtpchhfhmopmagaaGreat.Fi Go.Proofs.YtpchhfhmopmagaaGreat.Pa Go.Proofs.YtpchhfhmopmagaaGreat.Qu
attribute [local go_sem] run_store_float Lx.opX Rel.oneOk
attribute [local irreducible] Lx.wpX

structure Pt where
  leaf : Int
  size : Int
  aft : Int
def Pt.cells (x : Pt) : List Value := [.int .i64 x.leaf, .int .i64 x.size, .int .i64 x.aft]
theorem grown_keep {α : Type} {z : Nat} {cells : α → List Value} (hc : ∀ x, (cells x).length = z) (hz : 0 < z) {w w' : World} {sv : Value} {zs : List α} {h n : Nat} {st : Int → Option S3} (hl : Lies z cells w.heap.size w sv zs) (hm : StM w h n st) (hg : w.grownBy w' (some h)) : Lies z cells w'.heap.size w' sv zs :=
  Lies.up hg.size (lies_map hc hz hl (at_isMap hm) (fun q hq hne => hg.block q hq (fun e => hne (by injection e))))
end Go.Proofs.YtpchhfhmopmagaaGreat.Rg
