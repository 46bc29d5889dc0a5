/- A tree's Leaves. -/
import Derived.Test.YtpchhfhmopmagaaGreatRfM
set_option linter.unusedVariables false
set_option linter.unusedSimpArgs false
namespace Go.Proofs.YtpchhfhmopmagaaGreat.Tr
open Go.RowKit Go.Maps Go.Proofs.YtpchhfhmopmagaaGreat.Wd Go.Proofs.YtpchhfhmopmagaaGreat.Li Go.Proofs.YtpchhfhmopmagaaGreat.Mp Go.Proofs.YtpchhfhmopmagaaGreat.Tp Go.Proofs.YtpchhfhmopmagaaGreat.Cl Go.Proofs.YtpchhfhmopmagaaGreat.So Go.Proofs.YtpchhfhmopmagaaGreat.Sw
attribute [local go_sem] run_store_float

theorem id_at {l : List Cls} {k : Nat} {x : Cls} (h : (sortC l)[k]? = some x) : (ids (sortC l))[k]? = some x.id := by unfold ids; rw [List.getElem?_map, h]; rfl
set_option maxRecDepth 20000 in
set_option maxHeartbeats 2000000 in
theorem tleaves_c (T : Nat) (l : List Cls) (R : Tp.Tree l) (w : World) (hT : TreeAt w w.heap.size T l) : Calls Tryz.prog 20 #[.pointer (some ⟨T, 0, none⟩)] w (ListOk (leavesS l) w) := by
  have hl := R.le
  have hid := Lib.hid (tids_c T l hl w hT)
  have hSL := Lib.hid (sortC_len l)
  have HT := Lib.hid hT
  have HR := Lib.hid R
  have hil := Lib.hid (ids_len l)
  clear hT R
  unfold ListOk at hid
  rw [hil.out] at hid
  go_enter Tryz.func20, Tryz.ntmps20
  go_wp2_with (go_at_call 23; refine (hid.out).mono ?_; rintro e w1 ⟨A1, c1, rfl, hs1, hb1⟩; have HS1 := Lib.hid hs1; have HB1 := Lib.hid hb1; clear hs1 hb1)
  have hws := HB1.out.size
  go_loopg [3, 9] l.length (fun kx s3 s9 wr => ∃ (k : Nat) (B9 : Option Addr) (c9 : Nat), s9 = .int .i64 k ∧ s3 = .slice B9 (leavesP l k).length c9 ∧ k ≤ l.length ∧ l.length - k ≤ kx ∧ Hid (wr.ownsRow w1.heap.size 3 1 s3 (leavesP l k).length (St.I (leavesP l k))) ∧ Hid (Below w1.heap.size w1 wr))
  case atStart => exact ⟨0, none, 0, rfl, rfl, by omega, by omega, Lib.hid (World.ownsRow_nil ..), Lib.hid (Below.refl _ _)⟩
  case round =>
    obtain ⟨k, B9, c9, rfl, rfl, hk, hkx, HO, HW⟩ := hrel
    have hwz := HW.out.size
    by_cases hlt : k < l.length
    · have hltz : (k : Int) < (l.length : Int) := by omega
      obtain ⟨x, hx⟩ : ∃ x, (sortC l)[k]? = some x := ⟨_, List.getElem?_eq_getElem (by rw [hSL.out]; exact hlt)⟩
      obtain ⟨a, u, rfl, hab, hu, hc⟩ := (HS1.out.below HW.out).cell1 (k := k) hlt
      unfold St.I at hu
      simp only [List.getElem?_map] at hu
      obtain ⟨y, hy0, rfl⟩ := Option.map_eq_some_iff.1 hu
      rw [id_at hx] at hy0
      obtain rfl : x.id = y := by injection hy0
      have hxl := sort_at hx
      have hxp := HR.out.good.pos x hxl
      have hwf := wf_id (i := x.id) (by omega)
      have hol := leavesP_len l k
      have HX := Lib.hid hx
      have hlf := tleaf_c T l x.id hwf wr ((HT.out.below (HB1.out.trans (HW.out.mono hws))).up (by omega))
      have hb : leafB l x.id = decide ((kids l x.id).length = 0) := by unfold leafB; rw [at_is HR.out.good hxl]; rfl
      rw [hb] at hlf
      have HLF := Lib.hid hlf
      clear hlf hb hx hu hy0 hxl
      by_cases h0 : (kids l x.id).length = 0
      · have e0 : decide ((kids l x.id).length = 0) = true := decide_eq_true h0
        rw [e0] at HLF
        have HTK := Lib.hid (leavesP_in HX.out h0)
        clear h0 e0
        generalize leavesP l k = os at *
        go_upto_region 6 with (go_at_call 61; refine (HLF.out).mono ?_; rintro e w2 ⟨rfl, hb2⟩; have HB2 := Lib.hid hb2; clear hb2)
        have hw2 := HB2.out.size
        have HO2 := Lib.hid (own_same (w' := w2) HO.out (fun q hq => HB2.out.block q (HO.out.lt q hq).2))
        have HW2 := Lib.hid (HW.out.trans (HB2.out.mono hwz))
        clear hc
        go_wp2_with ((at_builtin; go_must (refine wpList_push_at (by rfl) _ _ 38 (by rfl) Tryz.underlying38 w1.heap.size x.id w2 _ os (by rfl) HO2.out (by rfl) (by omega) (by omega) ?_)); intro g cap7 w7 hown7 hg7 hl7; have HO7 := Lib.hid hown7; have HB7 := Lib.hid (push_below HW2.out (Nat.le_refl _) (by omega) HO2.out hg7); clear hown7 hg7 hl7)
        go_roundg (l.length - (k + 1))
        case measure => omega
        case rel => exact ⟨k + 1, some ⟨g, 0, none⟩, cap7, by go_num, by rw [HTK.out]; simp, by omega, by omega, Lib.hid (by rw [HTK.out]; have := HO7.out; simpa [Sv.val] using this), HB7⟩
      · have e0 : decide ((kids l x.id).length = 0) = false := decide_eq_false h0
        rw [e0] at HLF
        have HTK := Lib.hid (leavesP_out HX.out h0)
        clear h0 e0
        go_wp2_with (go_at_call 61; refine (HLF.out).mono ?_; rintro e w2 ⟨rfl, hb2⟩; have HB2 := Lib.hid hb2; clear hb2)
        go_roundg (l.length - (k + 1))
        case measure => omega
        case rel => exact ⟨k + 1, B9, c9, by go_num, by rw [HTK.out], by omega, by omega, Lib.hid (by rw [HTK.out]; exact own_same HO.out (fun q hq => HB2.out.block q (HO.out.lt q hq).2)), Lib.hid (HW.out.trans (HB2.out.mono hwz))⟩
    · have hltz : ¬ (k : Int) < (l.length : Int) := by omega
      obtain rfl : k = l.length := by omega
      have HTK : Hid (leavesP l l.length = leavesS l) := Lib.hid (by rw [← hSL.out]; exact leavesP_all l)
      rw [HTK.out] at HO ⊢
      go_wp2
      go_ret
      exact ⟨B9, c9, rfl, Sl.of_own HO.out, HB1.out.trans (HW.out.mono hws)⟩
end Go.Proofs.YtpchhfhmopmagaaGreat.Tr
