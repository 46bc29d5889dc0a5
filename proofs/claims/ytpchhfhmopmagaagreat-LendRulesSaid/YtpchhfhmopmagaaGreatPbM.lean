/- The reference's Has. The reference's Path. The reference's Below. The reference's Meet. The reference's Apart. Ways up: one's way holds the ways of all above; two ways meet alike from either side; all ways end at the root. The reference's Lenders. -/
import Derived.Test.YtpchhfhmopmagaaGreatPaM
import Derived.Deep.RegionHeld3
set_option linter.unusedVariables false
set_option linter.unusedSimpArgs false
/- The reference's Has. -/
namespace Go.Proofs.YtpchhfhmopmagaaGreat.Pa
open Go.RowKit Go.Maps Go.Proofs.YtpchhfhmopmagaaGreat.Wd Go.Proofs.YtpchhfhmopmagaaGreat.Li Go.Proofs.YtpchhfhmopmagaaGreat.Mp Go.Proofs.YtpchhfhmopmagaaGreat.Tp Go.Proofs.YtpchhfhmopmagaaGreat.Tr Go.Proofs.YtpchhfhmopmagaaGreat.Cl Go.Proofs.YtpchhfhmopmagaaGreat.So Go.Proofs.YtpchhfhmopmagaaGreat.Sw

theorem has_snoc {zs : List Int} {v y : Int} {k : Nat} (h : zs[k]? = some y) (hn : v ∉ zs.take k) (hy : (y == v) = false) : v ∉ zs.take (k + 1) := by
  rw [List.take_add_one, h]
  intro hm
  rcases List.mem_append.1 hm with h1 | h1
  · exact hn h1
  · simp at h1; subst h1; simp at hy
set_option maxRecDepth 20000 in
set_option maxHeartbeats 1000000 in
theorem has_c (A : Option Addr) (c B : Nat) (zs : List Int) (v : Int) (hlen : zs.length ≤ 1048576) (w : World) (hs : Sl w B 1 A zs.length (St.I zs)) :
    Calls Tryz.prog 27 #[.slice A zs.length c, .int .i64 v] w fun e w' => e = .returned (.bool (decide (v ∈ zs))) ∧ w = w' := by
  have HS := Lib.hid hs
  clear hs
  go_enter Tryz.func27, Tryz.ntmps27
  go_wp2
  go_loopg [5] zs.length (fun kx s5 wr => ∃ (k : Nat), s5 = .int .i64 k ∧ k ≤ zs.length ∧ zs.length - k ≤ kx ∧ wr = w ∧ Hid (v ∉ zs.take k))
  case atStart => exact ⟨0, rfl, by omega, by omega, rfl, Lib.hid (by simp)⟩
  case round =>
    obtain ⟨k, rfl, hk, hkx, rfl, HN⟩ := hrel
    by_cases hlt : k < zs.length
    · have hltz : (k : Int) < (zs.length : Int) := by omega
      obtain ⟨a, u, rfl, hab, hu, hc⟩ := HS.out.cell1 (k := k) hlt
      unfold St.I at hu
      simp only [List.getElem?_map] at hu
      obtain ⟨y, hy0, rfl⟩ := Option.map_eq_some_iff.1 hu
      have HY := Lib.hid hy0
      clear hu hy0
      cases hq : (y == v) with
      | true =>
        have HV : Hid (decide (v ∈ zs) = true) := Lib.hid (decide_eq_true (by have := eq_of_beq hq; subst this; exact List.mem_of_getElem? HY.out))
        go_wp2
        go_ret
        exact ⟨by rw [HV.out]; rfl, rfl⟩
      | false =>
        have HQ := Lib.hid (has_snoc HY.out HN.out hq)
        go_wp2
        go_roundg (zs.length - (k + 1))
        case measure => omega
        case rel => exact ⟨k + 1, by go_num, by omega, by omega, rfl, HQ⟩
    · have hltz : ¬ (k : Int) < (zs.length : Int) := by omega
      obtain rfl : k = zs.length := by omega
      have HV : Hid (decide (v ∈ zs) = false) := Lib.hid (decide_eq_false (by have := HN.out; rwa [List.take_length] at this))
      go_wp2
      go_ret
      exact ⟨by rw [HV.out]; rfl, rfl⟩
end Go.Proofs.YtpchhfhmopmagaaGreat.Pa

/- The reference's Path. -/
namespace Go.Proofs.YtpchhfhmopmagaaGreat.Pa
open Go.RowKit Go.Maps Go.Proofs.YtpchhfhmopmagaaGreat.Wd Go.Proofs.YtpchhfhmopmagaaGreat.Li Go.Proofs.YtpchhfhmopmagaaGreat.Mp Go.Proofs.YtpchhfhmopmagaaGreat.Tp Go.Proofs.YtpchhfhmopmagaaGreat.Tr Go.Proofs.YtpchhfhmopmagaaGreat.Cl Go.Proofs.YtpchhfhmopmagaaGreat.So Go.Proofs.YtpchhfhmopmagaaGreat.Sw
attribute [local go_sem] run_store_float

theorem wids_none {l : List Cls} {id : Int} (h : at? l id = none) : wids l id = [] := by unfold wids; rw [way_none h]; rfl
theorem wids_some {l : List Cls} (F : Fit l) {id : Int} {c : Cls} (h : at? l id = some c) : wids l id = id :: wids l c.parent := by
  have hc : at? l c.id = some c := by rw [(at_mem h).2]; exact h
  unfold wids; rw [way_some F h hc]; simp [(at_mem h).2]
theorem wids_len (l : List Cls) (id : Int) : (wids l id).length ≤ 65 := by unfold wids; rw [List.length_map]; exact way_len id

def PathOk (zs : List Int) (w : World) (e : Ending) (w' : World) : Prop := ListOk zs w e w' ∧ ∃ v, e = .returned v ∧ Li.News w' 1 v zs.length (St.I zs)
set_option maxRecDepth 20000 in
set_option maxHeartbeats 1000000 in
theorem refpath_c (A : Option Addr) (cap : Nat) (l : List Cls) (F0 : Fit l) : ∀ (n : Nat) (id : Int), (wids l id).length ≤ n → ∀ (w : World), Holds w.heap.size w (.slice A l.length cap) l →
    Calls Tryz.prog 70 #[.slice A l.length cap, .int .i64 id] w (PathOk (wids l id) w) := by
  intro n
  obtain ⟨i0, hi, hz0, hz1, hz2⟩ := info_parts info3
  induction n with
  | zero =>
    intro id hn w hI
    have hfind := reffind_c A l.length cap w.heap.size l id (by have := F0.le; omega) w hI
    rcases find_at (zs := l) (id := id) with ⟨hf, ha⟩ | ⟨i, c, hf, hc, ha⟩
    · have hfz : decide (findC l id < 0) = true := decide_eq_true hf
      have HW := Lib.hid (wids_none ha)
      have HF := Lib.hid hfind
      clear hfind hf ha hn hI
      unfold PathOk ListOk
      go_enter Tryz.func70, Tryz.ntmps70
      go_wp2_with (go_at_call 72; (with_reducible refine (HF.out).mono ?_); rintro e w2 ⟨rfl, rfl⟩)
      go_ret
      rw [HW.out]
      exact ⟨⟨none, 0, rfl, Sl.nil, Below.refl _ _⟩, _, rfl, .inr ⟨rfl, rfl, rfl⟩⟩
    · rw [wids_some F0 ha] at hn; simp at hn
  | succ n ih =>
    intro id hn w hI
    have hfind := reffind_c A l.length cap w.heap.size l id (by have := F0.le; omega) w hI
    rcases find_at (zs := l) (id := id) with ⟨hf, ha⟩ | ⟨i, c, hf, hc, ha⟩
    · have hfz : decide (findC l id < 0) = true := decide_eq_true hf
      have HW := Lib.hid (wids_none ha)
      have HF := Lib.hid hfind
      clear hfind hf ha hn hI ih
      unfold PathOk ListOk
      go_enter Tryz.func70, Tryz.ntmps70
      go_wp2_with (go_at_call 72; (with_reducible refine (HF.out).mono ?_); rintro e w2 ⟨rfl, rfl⟩)
      go_ret
      rw [HW.out]
      exact ⟨⟨none, 0, rfl, Sl.nil, Below.refl _ _⟩, _, rfl, .inr ⟨rfl, rfl, rfl⟩⟩
    · have hil := (List.getElem?_eq_some_iff.1 hc).1
      have hF5 := F0.le
      obtain ⟨_, hcs⟩ := holds_parts hI
      obtain ⟨b, off, rfl, hb, hcc⟩ := hcs (by omega)
      have c1' := hcc i c hc 1 _ rfl
      have hB1 : Below w.heap.size w (w.alloc (.cells #[.int .i64 id] 3)) := (Below.refl _ w).alloc (Nat.le_refl _) _
      have c1 := (hB1.cell (p := ⟨b, off + i * 11 + 1, none⟩) hb).trans c1'
      have HR1 : Hid ((w.alloc (.cells #[.int .i64 id] 3)).ownsRow w.heap.size 3 1 (.slice (some ⟨w.heap.size, 0, none⟩) 1 1) 1 [.int .i64 id]) := Lib.hid ⟨rfl, .inr ⟨w.heap.size, 1, #[.int .i64 id], rfl, Nat.le_refl _, World.alloc_heap_new w _, Nat.le_refl _, by decide, rfl, rfl⟩⟩
      have hw0 := wids_some F0 ha
      have hl2 := wids_len l c.parent
      have hp := ih c.parent (by rw [hw0] at hn; simp at hn; omega) (w.alloc (.cells #[.int .i64 id] 3)) (holds_next hI hB1)
      have HP := Lib.hid hp
      have HW := Lib.hid hw0
      have HF := Lib.hid hfind
      rw [hf] at HF
      have HB1 := Lib.hid hB1
      have hilz : (i : Int) < (l.length : Int) := by omega
      generalize hL : wids l c.parent = ps at *
      clear hfind hf ha hn hI ih hp hw0 hcs hcc hc hL hB1
      unfold PathOk ListOk at *
      rw [HW.out]
      go_enter Tryz.func70, Tryz.ntmps70
      go_wp2_with (first
        | (go_at_call 72; (with_reducible refine (HF.out).mono ?_); rintro e w9 ⟨rfl, hw9⟩; subst w9)
        | (go_at_call 70; (with_reducible refine (HP.out).mono ?_); rintro e w2 ⟨⟨A1, c1, rfl, hs1, hb2⟩, v2, hv2, hN2⟩; injection hv2 with hv2; subst hv2; have HN2 := Lib.hid hN2; have HB2 := Lib.hid hb2
           have HR2 := Lib.hid (own_same (w' := w2) HR1.out (fun q hq => HB2.out.block q (HR1.out.lt q hq).2)); clear hs1 hb2 hN2)
        | (at_builtin; go_must (refine Li.wpList_cats (by rfl) _ _ 38 (by rfl) w.heap.size 3 i0 _ 1 8 Tryz.underlying38 hi hz0 hz1 hz2 rfl (by decide) (by decide) w2 _ 1 _ HR2.out (by rfl) _ ps.length (St.I ps) (by rfl) HN2.out (by intro u hu; unfold St.I at hu; obtain ⟨y, _, rfl⟩ := List.mem_map.1 hu; rfl) (by decide) (by omega) (by have h1 := HB2.out.size; have h2 := HB1.out.size; omega) (ps.length + 1) (St.I (id :: ps)) (by omega) rfl ?_); intro A3 c3 w3 hown3 hb3; have HO3 := Lib.hid hown3; have HB3 := Lib.hid hb3; clear hown3 hb3))
      go_ret
      have hsl := Sl.of_own HO3.out
      obtain ⟨a, ha, _, hca⟩ := hsl.2 (by omega)
      exact ⟨⟨A3, c3, rfl, hsl, HB1.out.trans ((HB2.out.mono HB1.out.size).trans HB3.out)⟩, _, rfl, .inl ⟨a, c3, by rw [ha]; rfl, hsl.1, hca⟩⟩
end Go.Proofs.YtpchhfhmopmagaaGreat.Pa

/- The reference's Below. -/
namespace Go.Proofs.YtpchhfhmopmagaaGreat.Pa
open Go.RowKit Go.Maps Go.Proofs.YtpchhfhmopmagaaGreat.Wd Go.Proofs.YtpchhfhmopmagaaGreat.Li Go.Proofs.YtpchhfhmopmagaaGreat.Mp Go.Proofs.YtpchhfhmopmagaaGreat.Tp Go.Proofs.YtpchhfhmopmagaaGreat.Tr Go.Proofs.YtpchhfhmopmagaaGreat.Cl Go.Proofs.YtpchhfhmopmagaaGreat.So Go.Proofs.YtpchhfhmopmagaaGreat.Sw
attribute [local go_sem] run_store_float

set_option maxRecDepth 20000 in
set_option maxHeartbeats 2000000 in
theorem refbelow_c (A : Option Addr) (cap : Nat) (l : List Cls) (F0 : Fit l) (id : Int) (w : World) (hI : Holds w.heap.size w (.slice A l.length cap) l) :
    Calls Tryz.prog 163 #[.slice A l.length cap, .int .i64 id] w (ListOk (belowS l id) w) := by
  have hlv := Lib.hid (refleaves_c A cap l (by have := F0.le; omega) w hI)
  have hll := Lib.hid (Nat.le_trans (leaves_len l) F0.le)
  have HI := Lib.hid hI
  have HF := Lib.hid F0
  clear hI F0
  unfold ListOk at hlv
  obtain ⟨zs, hz⟩ : ∃ zs, zs = leavesS l := ⟨_, rfl⟩
  have HZ := Lib.hid hz
  rw [← hz] at hlv hll
  clear hz
  go_enter Tryz.func163, Tryz.ntmps163
  go_wp2_with (go_at_call 28; (with_reducible refine (hlv.out).mono ?_); rintro e w1 ⟨A1, c1, rfl, hs1, hb1⟩; have HS1 := Lib.hid hs1; have HB1 := Lib.hid hb1; clear hs1 hb1)
  have hws := HB1.out.size
  go_loopg [5, 7] zs.length (fun kx s5 s11 wr => ∃ (k : Nat) (B9 : Option Addr) (c9 : Nat), s11 = .int .i64 k ∧ s5 = .slice B9 (belowP l id k).length c9 ∧ k ≤ zs.length ∧ zs.length - k ≤ kx ∧ Hid (wr.ownsRow w1.heap.size 3 1 s5 (belowP l id k).length (St.I (belowP l id k))) ∧ Hid (Below w1.heap.size w1 wr))
  case atStart => exact ⟨0, none, 0, rfl, rfl, by omega, by omega, Lib.hid (World.ownsRow_nil ..), Lib.hid (Below.refl _ _)⟩
  case round =>
    obtain ⟨k, B9, c9, rfl, rfl, hk, hkx, HO, HW⟩ := hrel
    have hwz := HW.out.size
    have hl2 := hll.out
    by_cases hlt : k < zs.length
    · have hltz : (k : Int) < (zs.length : Int) := by omega
      obtain ⟨a, u, rfl, hab, hu, hc⟩ := (HS1.out.below HW.out).cell1 (k := k) hlt
      unfold St.I at hu
      simp only [List.getElem?_map] at hu
      obtain ⟨y, hy0, rfl⟩ := Option.map_eq_some_iff.1 hu
      rw [HZ.out] at hy0
      have hol := belowP_len l id k
      have hpa := refpath_c A cap l HF.out 65 y (wids_len l y) wr (holds_next HI.out (HB1.out.trans (HW.out.mono hws)))
      unfold PathOk ListOk at hpa
      have HPA := Lib.hid hpa
      have hps := wids_len l y
      obtain ⟨q, hq⟩ : ∃ q, q = underS l y id := ⟨_, rfl⟩
      have hqd : decide (id ∈ wids l y) = q := hq.symm
      obtain ⟨ps, hpse⟩ : ∃ ps, ps = wids l y := ⟨_, rfl⟩
      rw [← hpse] at HPA hps hqd
      have HY := Lib.hid hy0
      have HQ := Lib.hid hq
      have HQD := Lib.hid hqd
      clear hpa hu hy0 hq hqd hpse
      cases q with
      | true =>
        have HTK := Lib.hid (belowP_in HY.out HQ.out.symm)
        generalize belowP l id k = os at *
        go_upto_region 7 with (first
          | (go_at_call 70; (with_reducible refine (HPA.out).mono ?_); rintro e w2 ⟨⟨A2, c2, rfl, hs2, hb2⟩, hpx⟩; have hh := has_c A2 c2 w2.heap.size ps id (by omega) w2 hs2; rw [HQD.out] at hh; have HH := Lib.hid hh; have HB2 := Lib.hid hb2; clear hs2 hb2 hpx hh)
          | (go_at_call 27; (with_reducible refine (HH.out).mono ?_); rintro e w3 ⟨rfl, hw3⟩; subst w3))
        have hw2 := HB2.out.size
        have hc2 := (HB2.out.cell (p := a.add k) (show (a.add k).block < wr.heap.size by rw [add_block]; omega)).trans hc
        have HO2 := Lib.hid (own_same (w' := w2) HO.out (fun q hq => HB2.out.block q (HO.out.lt q hq).2))
        have HW2 := Lib.hid (HW.out.trans (HB2.out.mono hwz))
        clear hc
        go_wp2_with ((at_builtin; go_must (refine wpList_push_at (by rfl) _ _ 38 (by rfl) Tryz.underlying38 w1.heap.size y w2 _ os (by rfl) HO2.out (by rfl) (by omega) (by omega) ?_)); intro g cap7 w7 hown7 hg7 hl7; have HO7 := Lib.hid hown7; have HB7 := Lib.hid (push_below HW2.out (Nat.le_refl _) (by omega) HO2.out hg7); clear hown7 hg7 hl7)
        go_roundg (zs.length - (k + 1))
        case measure => omega
        case rel => exact ⟨k + 1, some ⟨g, 0, none⟩, cap7, by go_num, by rw [HTK.out]; simp, by omega, by omega, Lib.hid (by rw [HTK.out]; have := HO7.out; simpa [Sv.val] using this), HB7⟩
      | false =>
        have HTK := Lib.hid (belowP_out HY.out HQ.out.symm)
        go_wp2_with (first
          | (go_at_call 70; (with_reducible refine (HPA.out).mono ?_); rintro e w2 ⟨⟨A2, c2, rfl, hs2, hb2⟩, hpx⟩; have hh := has_c A2 c2 w2.heap.size ps id (by omega) w2 hs2; rw [HQD.out] at hh; have HH := Lib.hid hh; have HB2 := Lib.hid hb2; clear hs2 hb2 hpx hh)
          | (go_at_call 27; (with_reducible refine (HH.out).mono ?_); rintro e w3 ⟨rfl, hw3⟩; subst w3))
        go_roundg (zs.length - (k + 1))
        case measure => omega
        case rel => exact ⟨k + 1, B9, c9, by go_num, by rw [HTK.out], by omega, by omega, Lib.hid (by rw [HTK.out]; exact own_same HO.out (fun q hq => HB2.out.block q (HO.out.lt q hq).2)), Lib.hid (HW.out.trans (HB2.out.mono hwz))⟩
    · have hltz : ¬ (k : Int) < (zs.length : Int) := by omega
      obtain rfl : k = zs.length := by omega
      have HTK : Hid (belowP l id zs.length = belowS l id) := Lib.hid (by rw [HZ.out]; exact belowP_all l id)
      rw [HTK.out] at HO ⊢
      go_wp2
      go_ret
      exact ⟨B9, c9, rfl, Sl.of_own HO.out, HB1.out.trans (HW.out.mono hws)⟩
end Go.Proofs.YtpchhfhmopmagaaGreat.Pa

/- The reference's Meet. -/
namespace Go.Proofs.YtpchhfhmopmagaaGreat.Pa
open Go.RowKit Go.Maps Go.Proofs.YtpchhfhmopmagaaGreat.Wd Go.Proofs.YtpchhfhmopmagaaGreat.Li Go.Proofs.YtpchhfhmopmagaaGreat.Mp Go.Proofs.YtpchhfhmopmagaaGreat.Tp Go.Proofs.YtpchhfhmopmagaaGreat.Tr Go.Proofs.YtpchhfhmopmagaaGreat.Cl Go.Proofs.YtpchhfhmopmagaaGreat.So Go.Proofs.YtpchhfhmopmagaaGreat.Sw
attribute [local go_sem] run_store_float

end Go.Proofs.YtpchhfhmopmagaaGreat.Pa

/- The reference's Apart. -/
namespace Go.Proofs.YtpchhfhmopmagaaGreat.Pa
open Go.RowKit Go.Maps Go.Proofs.YtpchhfhmopmagaaGreat.Wd Go.Proofs.YtpchhfhmopmagaaGreat.Li Go.Proofs.YtpchhfhmopmagaaGreat.Mp Go.Proofs.YtpchhfhmopmagaaGreat.Tp Go.Proofs.YtpchhfhmopmagaaGreat.Tr Go.Proofs.YtpchhfhmopmagaaGreat.Cl Go.Proofs.YtpchhfhmopmagaaGreat.So Go.Proofs.YtpchhfhmopmagaaGreat.Sw
attribute [local go_sem] run_store_float

theorem apart_snoc {l : List Cls} {a b : Int} {k : Nat} {x : Ci l} (h : (way l a)[k]? = some x) (hn : ((way l a).take k).any (apartB l b) = false) (hx : apartB l b x = false) : ((way l a).take (k + 1)).any (apartB l b) = false := by
  rw [List.take_add_one, h, List.any_append, hn]; simp [hx]
theorem apartB_is {l : List Cls} {b : Int} (x : Ci l) : apartB l b x = (x.1.isolated && !decide (x.1.id ∈ wids l b)) := rfl
theorem apart_yes {l : List Cls} {a b : Int} {k : Nat} {x : Ci l} (h : (way l a)[k]? = some x) (hx : apartB l b x = true) : apartS l a b = true := by
  unfold apartS
  exact List.any_eq_true.2 ⟨x, List.mem_of_getElem? h, hx⟩
set_option maxRecDepth 20000 in
set_option maxHeartbeats 1000000 in
theorem refapart_c (A : Option Addr) (cap : Nat) (l : List Cls) (F0 : Fit l) (a b : Int) (w : World) (hI : Holds w.heap.size w (.slice A l.length cap) l) :
    Calls Tryz.prog 161 #[.slice A l.length cap, .int .i64 a, .int .i64 b] w (RetB (.bool (apartS l a b)) w) := by
  have HPA := Lib.hid (refpath_c A cap l F0 65 a (wids_len l a) w hI)
  have HPB := Lib.hid (fun (w1 : World) (h : Below w.heap.size w w1) => refpath_c A cap l F0 65 b (wids_len l b) w1 (holds_next hI h))
  have HLA := Lib.hid (wids_len l a)
  have HI := Lib.hid hI
  have HF := Lib.hid F0
  clear hI F0
  unfold PathOk ListOk RetB at *
  go_enter Tryz.func161, Tryz.ntmps161
  go_upto_region 3 with (first
    | (go_at_call 70; (with_reducible refine (HPA.out).mono ?_); rintro e w1 ⟨⟨A1, c1, rfl, hs1, hb1⟩, hpx⟩; have HB := Lib.hid (HPB.out w1 hb1); have HS1 := Lib.hid hs1; have HB1 := Lib.hid hb1; clear hs1 hb1 hpx HPA)
    | (go_at_call 70; (with_reducible refine (HB.out).mono ?_); rintro e w2 ⟨⟨A2, c2, rfl, hs2, hb2⟩, hpx⟩; have HS2 := Lib.hid hs2; have HB2 := Lib.hid hb2; clear hs2 hb2 hpx HB))
  go_loopg [9] ((wids l a).length) (fun kx s9 wr => ∃ (k : Nat), s9 = .int .i64 k ∧ k ≤ (wids l a).length ∧ (wids l a).length - k ≤ kx ∧ wr = w2 ∧ Hid (((way l a).take k).any (apartB l b) = false))
  case atStart => exact ⟨0, rfl, by omega, by omega, rfl, Lib.hid rfl⟩
  case round =>
    obtain ⟨k, rfl, hk, hkx, rfl, HN⟩ := hrel
    have hla := HLA.out
    by_cases hlt : k < (wids l a).length
    · have hltz : (k : Int) < ((wids l a).length : Int) := by omega
      have hkw : k < (way l a).length := by rw [show (wids l a).length = (way l a).length from List.length_map _] at hlt; exact hlt
      obtain ⟨x, hx⟩ : ∃ x, (way l a)[k]? = some x := ⟨_, List.getElem?_eq_getElem hkw⟩
      have hwx : (wids l a)[k]? = some x.1.id := by unfold wids; rw [List.getElem?_map, hx]; rfl
      obtain ⟨a1, u, rfl, hab, hu, hc⟩ := (HS1.out.below HB2.out).cell1 (k := k) hlt
      unfold St.I at hu
      rw [List.getElem?_map, hwx] at hu
      obtain rfl : Value.int .i64 x.1.id = u := by injection hu
      rcases find_at (zs := l) (id := x.1.id) with ⟨_, ha⟩ | ⟨i, c, hf, hic, ha⟩
      · rw [x.2] at ha; cases ha
      · obtain rfl : x.1 = c := by rw [x.2] at ha; injection ha
        have hil := (List.getElem?_eq_some_iff.1 hic).1
        have hF5 := HF.out.le
        obtain ⟨_, hcs⟩ := holds_parts HI.out
        obtain ⟨b0, off, rfl, hb, hcc⟩ := hcs (by omega)
        have hBw := HB1.out.trans (HB2.out.mono HB1.out.size)
        have d10 := (hBw.cell (p := ⟨b0, off + i * 11 + 10, none⟩) hb).trans (hcc i x.1 hic 10 _ rfl)
        have hfind := reffind_c (some ⟨b0, off, none⟩) l.length cap wr.heap.size l x.1.id (by omega) wr (holds_next HI.out hBw)
        rw [hf] at hfind
        have HFI := Lib.hid hfind
        have hilz : (i : Int) < (l.length : Int) := by omega
        have hh := has_c A2 c2 wr.heap.size (wids l b) x.1.id (by have := wids_len l b; omega) wr HS2.out
        have hat := apartB_is x (l := l) (b := b)
        obtain ⟨q, hq⟩ : ∃ q, q = x.1.isolated := ⟨_, rfl⟩
        obtain ⟨r, hr⟩ : ∃ r, r = decide (x.1.id ∈ wids l b) := ⟨_, rfl⟩
        rw [← hq] at d10
        rw [← hr] at hh
        rw [← hq, ← hr] at hat
        have HH := Lib.hid hh
        have HAT := Lib.hid hat
        have HX := Lib.hid hx
        clear hfind hf hic ha hcs hcc hh hat hq hr hx hwx hu hkw hil
        have HNX : Hid (apartB l b x = false → ((way l a).take (k + 1)).any (apartB l b) = false) := Lib.hid (fun h => apart_snoc HX.out HN.out h)
        have HTX : Hid (apartB l b x = true → apartS l a b = true) := Lib.hid (fun h => apart_yes HX.out h)
        cases q with
        | false =>
          go_wp2_with (go_at_call 72; (with_reducible refine (HFI.out).mono ?_); rintro e w9 ⟨rfl, hw9⟩; subst w9)
          go_roundg ((wids l a).length - (k + 1))
          case measure => omega
          case rel => exact ⟨k + 1, by go_num, by omega, by omega, rfl, Lib.hid (HNX.out HAT.out)⟩
        | true =>
          cases r with
          | false =>
            go_wp2_with (first
              | (go_at_call 72; (with_reducible refine (HFI.out).mono ?_); rintro e w9 ⟨rfl, hw9⟩; subst w9)
              | (go_at_call 27; (with_reducible refine (HH.out).mono ?_); rintro e w9 ⟨rfl, hw9⟩; subst w9))
            go_ret
            exact ⟨by rw [HTX.out HAT.out]; rfl, HB1.out.trans (HB2.out.mono HB1.out.size)⟩
          | true =>
            go_wp2_with (first
              | (go_at_call 72; (with_reducible refine (HFI.out).mono ?_); rintro e w9 ⟨rfl, hw9⟩; subst w9)
              | (go_at_call 27; (with_reducible refine (HH.out).mono ?_); rintro e w9 ⟨rfl, hw9⟩; subst w9))
            go_roundg ((wids l a).length - (k + 1))
            case measure => omega
            case rel => exact ⟨k + 1, by go_num, by omega, by omega, rfl, Lib.hid (HNX.out HAT.out)⟩
    · have hltz : ¬ (k : Int) < ((wids l a).length : Int) := by omega
      obtain rfl : k = (wids l a).length := by omega
      have HT : Hid (apartS l a b = false) := Lib.hid (by have := HN.out; rw [show (wids l a).length = (way l a).length from List.length_map _, List.take_length] at this; exact this)
      go_wp2
      go_ret
      exact ⟨by rw [HT.out]; rfl, HB1.out.trans (HB2.out.mono HB1.out.size)⟩
end Go.Proofs.YtpchhfhmopmagaaGreat.Pa

/- Ways up: one's way holds the ways of all above; two ways meet alike from either side; all ways end at the root. -/
namespace Go.Proofs.YtpchhfhmopmagaaGreat.Pa
open Go.Proofs.YtpchhfhmopmagaaGreat.Tp Go.Proofs.YtpchhfhmopmagaaGreat.Tr Go.Proofs.YtpchhfhmopmagaaGreat.Cl Go.Proofs.YtpchhfhmopmagaaGreat.So
variable {l : List Cls}

theorem wids_tail (F : Fit l) : ∀ (p : List Int) (a i : Int) (t : List Int), wids l a = p ++ i :: t → wids l i = i :: t
  | [], a, i, t, h => by
    cases ha : at? l a with
    | none => rw [wids_none ha] at h; cases h
    | some c =>
      have h2 := h
      rw [wids_some F ha] at h2
      injection h2 with e _
      subst e; exact h
  | x :: p, a, i, t, h => by
    cases ha : at? l a with
    | none => rw [wids_none ha] at h; cases h
    | some c =>
      rw [wids_some F ha] at h
      injection h with _ e
      exact wids_tail F p c.parent i t e
/-- the way goes from a class to its parent -/
theorem way_next (F : Fit l) : ∀ (k : Nat) (a : Int) (x : Ci l), (way l a)[k]? = some x → way l x.1.id = x :: way l x.1.parent ∧ (way l a).drop (k + 1) = way l x.1.parent
  | 0, a, x, h => by
    cases ha : at? l a with
    | none => rw [way_none ha] at h; cases h
    | some c =>
      have hc : at? l c.id = some c := by rw [(at_mem ha).2]; exact ha
      rw [way_some F ha hc] at h ⊢
      simp at h
      subst h
      exact ⟨way_some F hc hc, by simp⟩
  | k + 1, a, x, h => by
    cases ha : at? l a with
    | none => rw [way_none ha] at h; cases h
    | some c =>
      have hc : at? l c.id = some c := by rw [(at_mem ha).2]; exact ha
      rw [way_some F ha hc] at h ⊢
      simp at h
      have := way_next F k c.parent x h
      exact ⟨this.1, by simpa using this.2⟩
/-- who lends to whom, rank by rank -/
theorem lend_none (F : Fit l) {a : Int} {x : Cls} (h : at? l a = some x) (hg : (brw x && !(x.parent == 0)) = false) : lendS l a = [] := by
  have hc : at? l x.id = some x := by rw [(at_mem h).2]; exact h
  unfold lendS
  rw [way_some F h hc, List.takeWhile_cons]
  unfold goes
  rw [hg]; rfl
theorem lend_some (F : Fit l) {a : Int} {x : Cls} (h : at? l a = some x) (hg : (brw x && !(x.parent == 0)) = true) : lendS l a = x.parent :: lendS l x.parent := by
  have hc : at? l x.id = some x := by rw [(at_mem h).2]; exact h
  unfold lendS
  rw [way_some F h hc, List.takeWhile_cons]
  unfold goes
  rw [if_pos hg]; rfl
theorem lend_absent {a : Int} (h : at? l a = none) : lendS l a = [] := by unfold lendS; rw [way_none h]; rfl
theorem lend_len (l : List Cls) (id : Int) : (lendS l id).length ≤ 65 := by
  unfold lendS pars
  rw [List.length_map]
  exact Nat.le_trans (List.Sublist.length_le (List.takeWhile_sublist _)) (way_len id)
/-- the class whose parent the k-th lender is -/
def was (l : List Cls) (a : Int) : Nat → Int
  | 0 => a
  | k + 1 => ((lendS l a)[k]?).getD 0
end Go.Proofs.YtpchhfhmopmagaaGreat.Pa

/- The reference's Lenders. -/
namespace Go.Proofs.YtpchhfhmopmagaaGreat.Pa
open Go.RowKit Go.Maps Go.Proofs.YtpchhfhmopmagaaGreat.Wd Go.Proofs.YtpchhfhmopmagaaGreat.Li Go.Proofs.YtpchhfhmopmagaaGreat.Mp Go.Proofs.YtpchhfhmopmagaaGreat.Tp Go.Proofs.YtpchhfhmopmagaaGreat.Tr Go.Proofs.YtpchhfhmopmagaaGreat.Cl Go.Proofs.YtpchhfhmopmagaaGreat.So Go.Proofs.YtpchhfhmopmagaaGreat.Sw
attribute [local go_sem] run_store_float

theorem step_cats {P : Program} {ops : Array Oper} {o : Oper} {a : Act} {K : Act → World → Prop} {Q : Exit → Act → World → Prop} {E : Prop} (hgd : o.guard = none) (s x : Operand) (t : TypeId)
    (ho : o.op = .call { callee := .builtin .append, args := #[s, x], argTypes := #[t, t] })
    (base : Nat) (e : TypeId) (i : TypeInfo) (z : Value) (size bytes : Nat) (ht : P.underlying t = some (.slice e)) (hi : P.info? e = some i) (hz : i.zero = some z)
    (hsize : i.size = size) (hby : i.bytes = bytes) (hzs : z.cells.size = size) (hsz : 0 < size) (hb8 : bytes ≤ 4096) (w : World)
    (v : Value) (n : Nat) (xs : List Value) (hown : w.ownsRow base e size v n xs) (hs : a.eval s = v) (X : Value) (m : Nat) (news : List Value)
    (hx : a.eval x = X) (hN : Li.News w size X m news) (h1 : ∀ u ∈ news, u.oneCell' = true) (hn : n < 4194304) (hm : m < 4194304) (hbase : base ≤ w.heap.size) (N : Nat) (ys : List Value) (hNm : n + m = N) (hys : xs ++ news = ys)
    (h : ∀ A cap w1, w1.ownsRow base e size (.slice A N cap) N ys → Below base w w1 → K (a.put o.dst (.slice A N cap)) w1) : if Region.wanted o (yielded ops a.tmps) = true then Oper.wp P o a w K Q else E := by
  have hw : Region.wanted o (yielded ops a.tmps) = true := by simp [Region.wanted, hgd]
  rw [if_pos hw]
  have H : wpList P ops (Lx.Nq K) [o] a w := Li.wpList_cats hgd s x t ho base e i z size bytes ht hi hz hsize hby hzs hsz hb8 w v n xs hown hs X m news hx hN h1 hn hm hbase N ys hNm hys (fun A cap w1 h1 h2 => wpList_nil (h A cap w1 h1 h2))
  unfold wpList at H
  rw [if_pos hw] at H
  rcases H with H | ⟨_, H⟩
  · unfold Oper.wp at H ⊢
    generalize (execOp a.eval o).run P w = r at H
    cases r with
    | halt x w' => cases x <;> exact H.elim
    | ok n w' =>
      cases n with
      | value u => exact H
      | skip => exact H
      | defer q => exact H
      | enter f args =>
        refine Calls.mono H (fun e w'' he => ?_)
        cases e with
        | returned u => exact he
        | panicked c => exact he.elim
        | outgrown => exact absurd he Lx.nq_out
      | row r args => exact Rows.mono H (fun u w'' he => he)
      | _ => exact H.elim
  · exact absurd H Lx.nq_out

theorem own_one {w : World} {n : Nat} {p : Int} (h : n ≤ w.heap.size) : (w.alloc (.cells #[.int .i64 p] 3)).ownsRow n 3 1 (.slice (some ⟨w.heap.size, 0, none⟩) 1 1) 1 [.int .i64 p] :=
  ⟨rfl, .inr ⟨w.heap.size, 1, #[.int .i64 p], rfl, h, World.alloc_heap_new w _, Nat.le_refl _, by decide, rfl, rfl⟩⟩
set_option maxRecDepth 20000 in
set_option maxHeartbeats 1500000 in
theorem reflend_step (A : Option Addr) (cap : Nat) (l : List Cls) (F0 : Fit l) (id : Int) (w : World) (hI : Holds w.heap.size w (.slice A l.length cap) l)
    (hp : ∀ c, at? l id = some c → (brw c && !(c.parent == 0)) = true → ∀ w', Below w.heap.size w w' → Calls Tryz.prog 81 #[.slice A l.length cap, .int .i64 c.parent] w' (PathOk (lendS l c.parent) w')) :
    Calls Tryz.prog 81 #[.slice A l.length cap, .int .i64 id] w (PathOk (lendS l id) w) := by
  obtain ⟨i0, hi, hz0, hz1, hz2⟩ := info_parts info3
  have hfind := reffind_c A l.length cap w.heap.size l id (by have := F0.le; omega) w hI
  rcases find_at (zs := l) (id := id) with ⟨hf, ha⟩ | ⟨i, c, hf, hc, ha⟩
  · have hfz : decide (findC l id < 0) = true := decide_eq_true hf
    have HW := Lib.hid (lend_absent ha)
    have HF := Lib.hid hfind
    clear hfind hf ha hI hp F0
    unfold PathOk ListOk
    go_enter Tryz.func81, Tryz.ntmps81
    go_wp2_with (go_at_call 72; (with_reducible refine (HF.out).mono ?_); rintro e w2 ⟨rfl, rfl⟩)
    go_ret
    rw [HW.out]
    exact ⟨⟨none, 0, rfl, Sl.nil, Below.refl _ _⟩, _, rfl, .inr ⟨rfl, rfl, rfl⟩⟩
  · have hil := (List.getElem?_eq_some_iff.1 hc).1
    have hF5 := F0.le
    obtain ⟨_, hcs⟩ := holds_parts hI
    obtain ⟨b, off, rfl, hb, hcc⟩ := hcs (by omega)
    have c1 := hcc i c hc 1 _ rfl
    have c9 := hcc i c hc 9 _ rfl
    have c10 := hcc i c hc 10 _ rfl
    have HF := Lib.hid hfind
    rw [hf] at HF
    have hilz : (i : Int) < (l.length : Int) := by omega
    have hfz : decide ((i : Int) < 0) = false := decide_eq_false (by omega)
    obtain ⟨qb, hqb⟩ : ∃ q, q = c.bounded := ⟨_, rfl⟩
    obtain ⟨qi, hqi⟩ : ∃ q, q = c.isolated := ⟨_, rfl⟩
    rw [← hqb] at c9
    rw [← hqi] at c10
    cases qb with
    | true =>
      have HW := Lib.hid (lend_none F0 ha (by unfold brw; rw [← hqb]; simp))
      clear hfind hf ha hI hp F0 hcs hcc hc hqb hqi
      unfold PathOk ListOk
      go_enter Tryz.func81, Tryz.ntmps81
      go_wp2_with (go_at_call 72; (with_reducible refine (HF.out).mono ?_); rintro e w9 ⟨rfl, hw9⟩; subst w9)
      go_ret
      rw [HW.out]
      exact ⟨⟨none, 0, rfl, Sl.nil, Below.refl _ _⟩, _, rfl, .inr ⟨rfl, rfl, rfl⟩⟩
    | false =>
      cases qi with
      | true =>
        have HW := Lib.hid (lend_none F0 ha (by unfold brw; rw [← hqi]; simp))
        clear hfind hf ha hI hp F0 hcs hcc hc hqb hqi
        unfold PathOk ListOk
        go_enter Tryz.func81, Tryz.ntmps81
        go_wp2_with (go_at_call 72; (with_reducible refine (HF.out).mono ?_); rintro e w9 ⟨rfl, hw9⟩; subst w9)
        go_ret
        rw [HW.out]
        exact ⟨⟨none, 0, rfl, Sl.nil, Below.refl _ _⟩, _, rfl, .inr ⟨rfl, rfl, rfl⟩⟩
      | false =>
        by_cases h0 : c.parent = 0
        · have e0 : (c.parent == 0) = true := by simp [h0]
          have HW := Lib.hid (lend_none F0 ha (by rw [e0]; simp))
          clear hfind hf ha hI hp F0 hcs hcc hc hqb hqi h0
          unfold PathOk ListOk
          go_enter Tryz.func81, Tryz.ntmps81
          go_wp2_with (go_at_call 72; (with_reducible refine (HF.out).mono ?_); rintro e w9 ⟨rfl, hw9⟩; subst w9)
          go_ret
          rw [HW.out]
          exact ⟨⟨none, 0, rfl, Sl.nil, Below.refl _ _⟩, _, rfl, .inr ⟨rfl, rfl, rfl⟩⟩
        · have e0 : (c.parent == 0) = false := by simp [h0]
          have hg : (brw c && !(c.parent == 0)) = true := by unfold brw; rw [← hqi, ← hqb, e0]; rfl
          have HW := Lib.hid (lend_some F0 ha hg)
          have hB1 : Below w.heap.size w (w.alloc (.cells #[.int .i64 c.parent] 3)).drew := ((Below.refl _ w).alloc (Nat.le_refl _) _).drew
          have HR1 : Hid ((w.alloc (.cells #[.int .i64 c.parent] 3)).drew.ownsRow w.heap.size 3 1 (.slice (some ⟨w.heap.size, 0, none⟩) 1 1) 1 [.int .i64 c.parent]) := Lib.hid ⟨rfl, .inr ⟨w.heap.size, 1, #[.int .i64 c.parent], rfl, Nat.le_refl _, World.alloc_heap_new w _, Nat.le_refl _, by decide, rfl, rfl⟩⟩
          have HP := Lib.hid (hp c ha hg)
          have HBd := Lib.hid ((Below.refl w.heap.size w).drew)
          have HK := Lib.hid (fun u (hu : Below w.heap.size w u) => (hu.cell (p := ⟨b, off + i * 11 + 1, none⟩) hb).trans c1)
          have hl2 := lend_len l c.parent
          have HB1 := Lib.hid hB1
          have HBB := Lib.hid hb
          generalize hL : lendS l c.parent = ps at *
          have HON : Hid (∀ u ∈ St.I ps, u.oneCell' = true) := Lib.hid (by intro u hu; unfold St.I at hu; obtain ⟨y, _, rfl⟩ := List.mem_map.1 hu; rfl)
          have HPL : Hid (ps.length < 4194304) := Lib.hid (by omega)
          have HPN : Hid (1 + ps.length = ps.length + 1) := Lib.hid (by omega)
          clear hfind hf ha hI hp F0 hcs hcc hc hqb hqi h0 hg hL hB1
          unfold PathOk ListOk at *
          rw [HW.out]
          go_enter Tryz.func81, Tryz.ntmps81
          go_upto_region 4 with (go_at_call 72; (with_reducible refine (HF.out).mono ?_); rintro e w9 ⟨rfl, hw9⟩; subst w9)
          go_region_held3 (fun w' => w'.cell? ⟨b, off + i * 11 + 1, none⟩ = some (.int .i64 c.parent)) ((refine HK.out _ ?_; (repeat' (first | assumption | exact Below.refl _ _ | refine Below.drew ?_ | refine Below.alloc ?_ ?_ _ | omega | (simp; omega))))) (first
            | (go_at_call 81; (with_reducible refine (HP.out _ HB1.out).mono ?_); rintro e w2 ⟨⟨A1, c1', rfl, hs1, hb2⟩, v2, hv2, hN2⟩; injection hv2 with hv2; subst hv2; have hbK := HB1.out.trans (hb2.mono HB1.out.size); have hbKs := hbK.size; have hR2 := own_same (w' := w2) HR1.out (fun q hq => hb2.block q (HR1.out.lt q hq).2))
            | (go_at_call 81; (with_reducible refine (HP.out _ HBd.out).mono ?_); rintro e w2 ⟨⟨A1, c1', rfl, hs1, hb2⟩, v2, hv2, hN2⟩; injection hv2 with hv2; subst hv2; have hbK := HBd.out.trans (hb2.mono HBd.out.size); have hbKs := hbK.size)
            | (refine step_cats rfl _ _ 38 rfl w.heap.size 3 i0 _ 1 8 Tryz.underlying38 hi hz0 hz1 hz2 rfl (by decide) (by decide) _ _ 1 _ hR2 (by simp [Act.eval]) _ ps.length (St.I ps) (by simp [Act.eval]) hN2 HON.out (by decide) HPL.out (Nat.le_trans HBd.out.size hbK.size) (ps.length + 1) (St.I (c.parent :: ps)) HPN.out rfl ?_; intro A3 c3 w3 hown3 hb3; have hbK3 := hbK.trans hb3)
            | (refine step_cats rfl _ _ 38 rfl w.heap.size 3 i0 _ 1 8 Tryz.underlying38 hi hz0 hz1 hz2 rfl (by decide) (by decide) _ _ 1 _ (own_one hbK.size) (by simp [Act.eval]) _ ps.length (St.I ps) (by simp [Act.eval]) (hN2.alloc _) HON.out (by decide) HPL.out (Nat.le_trans hbK.size (by simp)) (ps.length + 1) (St.I (c.parent :: ps)) HPN.out rfl ?_; intro A3 c3 w3 hown3 hb3; have hbK3 := (hbK.alloc hbK.size _).trans hb3))
          all_goals
            go_wp2_with fail
            go_ret
            have hsl := Sl.of_own hown3
            obtain ⟨a, ha, _, hca⟩ := hsl.2 (by omega)
            exact ⟨⟨A3, c3, rfl, hsl, hbK3⟩, _, rfl, .inl ⟨a, c3, by rw [ha]; rfl, hsl.1, hca⟩⟩

theorem reflend_c (A : Option Addr) (cap : Nat) (l : List Cls) (F0 : Fit l) : ∀ (n : Nat) (id : Int), (lendS l id).length ≤ n → ∀ (w : World), Holds w.heap.size w (.slice A l.length cap) l →
    Calls Tryz.prog 81 #[.slice A l.length cap, .int .i64 id] w (PathOk (lendS l id) w)
  | 0, id, hn, w, hI => reflend_step A cap l F0 id w hI (fun c hc hg => by rw [lend_some F0 hc hg] at hn; simp at hn)
  | n + 1, id, hn, w, hI => reflend_step A cap l F0 id w hI (fun c hc hg w' hB => reflend_c A cap l F0 n c.parent (by rw [lend_some F0 hc hg] at hn; simp at hn; omega) w' (holds_next hI hB))
end Go.Proofs.YtpchhfhmopmagaaGreat.Pa
