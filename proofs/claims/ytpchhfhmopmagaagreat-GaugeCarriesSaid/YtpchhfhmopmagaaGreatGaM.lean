/- config.Set.Tree, Quota; gauge.State; gauge.New. gauge.New. gauge.Sent. The document's example of gauges; gauge.Over. The law GaugeUnder. The law GaugeUnder. -/
import Derived.Test.YtpchhfhmopmagaaGreatCfM
import Derived.Test.YtpchhfhmopmagaaGreatIdM
import Derived.Test.YtpchhfhmopmagaaGreatTp6
import Derived.Test.YtpchhfhmopmagaaGreatLxM
import Derived.Test.YtpchhfhmopmagaaGreatTp5
set_option linter.unusedVariables false
set_option linter.unusedSimpArgs false
/- config.Set.Tree, Quota; gauge.State; gauge.New. -/
namespace Go.Proofs.YtpchhfhmopmagaaGreat.Ga
open Go.RowKit Go.Maps Go.Proofs.YtpchhfhmopmagaaGreat.Wd Go.Proofs.YtpchhfhmopmagaaGreat.Li Go.Proofs.YtpchhfhmopmagaaGreat.Mp Go.Proofs.YtpchhfhmopmagaaGreat.Tr Go.Proofs.YtpchhfhmopmagaaGreat.Tp Go.Proofs.YtpchhfhmopmagaaGreat.Cl Go.Proofs.YtpchhfhmopmagaaGreat.So Go.Proofs.YtpchhfhmopmagaaGreat.Fi Go.Proofs.YtpchhfhmopmagaaGreat.Sw Go.Proofs.YtpchhfhmopmagaaGreat.Qu Go.Proofs.YtpchhfhmopmagaaGreat.Cf Go.Proofs.YtpchhfhmopmagaaGreat.Id
attribute [local go_sem] run_store_float Lx.opX Rel.oneOk
attribute [local irreducible] Lx.wpX

theorem compile_c (t r d : Int) (hdw : (Lit.int .i64 d).wf = true) (A : Option Addr) (na ca : Nat) (B : Option Addr) (mb cb : Nat) (l : List Cls) (fs : List F) (hs : ∀ x ∈ l, x.share < 18446744073709551616) (hl : l.length ≤ 1048576) (hf : fs.length ≤ 1048576) (hcap : na ≤ ca) (w : World) (hI : Holds w.heap.size w (.slice A na ca) l) (hF : HoldsF w.heap.size w (.slice B mb cb) fs) :
    Calls Tryz.prog 18 #[cfV t r d (.slice A na ca) (.slice B mb cb)] w (CompCOk t r d l fs w) := callsIn_wide.1 (compile_in 9 (by omega) t r d hdw A na ca B mb cb l fs hs hl hf hcap w hI hF)
set_option maxRecDepth 20000 in
theorem settree_c (S : Nat) (v : Value) (w : World) (h : w.cell? ⟨S, 0, none⟩ = some v) : Calls Tryz.prog 19 #[.pointer (some ⟨S, 0, none⟩)] w fun e w' => e = .returned v ∧ w = w' := by
  go_enter Tryz.func19, Tryz.ntmps19
  go_wp2
  go_ret
  exact ⟨rfl, rfl⟩
set_option maxRecDepth 20000 in
theorem setquota_c (S : Nat) (v : Value) (w : World) (h : w.cell? ⟨S, 2, none⟩ = some v) : Calls Tryz.prog 65 #[.pointer (some ⟨S, 0, none⟩)] w fun e w' => e = .returned v ∧ w = w' := by
  go_enter Tryz.func65, Tryz.ntmps65
  go_wp2
  go_ret
  exact ⟨rfl, rfl⟩
abbrev StM (w : World) (h n : Nat) (st : Int → Option S3) : Prop := At S3.agg S3.enc S3.nil Tryz.prog 3 w h n st
def StateOk (o : Option S3) (w : World) (e : Ending) (w' : World) : Prop := e = .returned (.tuple #[(o.getD S3.nil).agg, .bool o.isSome]) ∧ Below w.heap.size w w'
set_option maxRecDepth 20000 in
set_option maxHeartbeats 1000000 in
theorem state_nil (id : Int) (w : World) : Calls Tryz.prog 24 #[.pointer none, .int .i64 id] w (StateOk none w) := by
  have hB := Lib.hid ((Below.refl w.heap.size w).alloc (Nat.le_refl _) (.cells #[.int .i64 0, .int .i64 0, .int .i64 0] 46))
  have hh := heap_alloc_new w (.cells #[.int .i64 0, .int .i64 0, .int .i64 0] 46)
  have HH := Lib.hid hh
  clear hh
  unfold StateOk
  go_enter Tryz.func24, Tryz.ntmps24
  go_upto_region 1 with fail
  generalize World.alloc w _ = U at *
  have r0 := cells_at HH.out 0 (.int .i64 0) rfl
  go_wp2_with (first | (refine wpList_store_whole (by rfl) 46 _ _ (by rfl) 3 Tryz.sizeOf46 w.heap.size _ _ 46 (by rfl) (by rfl) HH.out (by rfl) (by rfl) (by simp [Value.oneCell']) ?_; intro w6 hb6 hg6; have r0 := cells_at hb6 0 _ rfl; have r1 := cells_at hb6 1 _ rfl; have r2 := cells_at hb6 2 _ rfl; have HG6 := Lib.hid hg6; clear hb6 hg6))
  (try simp only [Exit.inBlock, Exit.then])
  refine bodyPost_ret (v := .tuple #[.agg #[.int .i64 0, .int .i64 0, .int .i64 0], .bool false]) (by simp [results, Tryz.results24, go_sem, r0, r1, r2]) rfl ?_
  exact ⟨rfl, hB.out.grown HG6.out hB.out.size (fun q hq => by injection hq; omega)⟩
set_option maxRecDepth 20000 in
set_option maxHeartbeats 1000000 in
theorem state_c (g h n : Nat) (S : Value) (st : Int → Option S3) (id : Int) (hid : (Lit.int .i64 id).wf = true) (w : World) (hg : w.heap[g]? = some (.cells #[S, .map (some h)] 122 (0, 0))) (hm : StM w h n st) :
    Calls Tryz.prog 24 #[.pointer (some ⟨g, 0, none⟩), .int .i64 id] w (StateOk (st id) w) := by
  have hB := (Below.refl w.heap.size w).alloc (Nat.le_refl _) (.cells #[.int .i64 0, .int .i64 0, .int .i64 0] 46)
  have HB := Lib.hid hB
  have HH := Lib.hid (heap_alloc_new w (.cells #[.int .i64 0, .int .i64 0, .int .i64 0] 46))
  have hs0 : (w.alloc (.cells #[.int .i64 0, .int .i64 0, .int .i64 0] 46)).heap.size = w.heap.size + 1 := by simp
  have hgl := (Array.getElem?_eq_some_iff.1 hg).1
  have hg1 := (hB.block g hgl).trans hg
  have hm1 := hm.below hB hm.lt
  obtain ⟨o, ho⟩ : ∃ o, o = st id := ⟨_, rfl⟩
  unfold StateOk
  rw [← ho]
  generalize hU : World.alloc w _ = U at *
  have t1 := cells_at hg1 1 (.map (some h)) rfl
  have hlook := hm1.look_ok s3_kind Tryz.underlying3 Tryz.underlying120 (zs3 U) hid
  rw [← ho] at hlook
  obtain ⟨x, hx⟩ : ∃ x, x = o.getD S3.nil := ⟨_, rfl⟩
  obtain ⟨ok, hok⟩ : ∃ ok, ok = o.isSome := ⟨_, rfl⟩
  rw [← hx, ← hok] at hlook ⊢
  unfold S3.agg at hlook ⊢
  have hul : w.heap.size < U.heap.size := by omega
  have HU := Lib.hid hU
  clear hU
  clear hg hm hm1 hg1 hB ho hx hok hs0 hgl
  go_enter Tryz.func24, Tryz.ntmps24
  go_upto_region 1 with fail
  rw [HU.out]
  go_wp2_with (first | (refine wpList_store_whole (by rfl) 46 _ _ (by rfl) 3 Tryz.sizeOf46 w.heap.size _ _ 46 (by rfl) (by rfl) ((Below.heap_alloc _ _ _ hul).trans HH.out) (by rfl) (by rfl) (by simp [Value.oneCell']) ?_; intro w6 hb6 hg6; have r0 := cells_at hb6 0 _ rfl; have r1 := cells_at hb6 1 _ rfl; have r2 := cells_at hb6 2 _ rfl; have HG6 := Lib.hid hg6; clear hb6 hg6))
  (try simp only [Exit.inBlock, Exit.then])
  refine bodyPost_ret (v := .tuple #[.agg #[.int .i64 x.l, .int .i64 x.a, .int .i64 x.u], .bool ok]) (by simp [results, Tryz.results24, go_sem, r0, r1, r2]) rfl ?_
  exact ⟨rfl, (HB.out.alloc HB.out.size _).grown HG6.out (by have := HB.out.size; simp; omega) (fun q hq => by injection hq; omega)⟩
end Go.Proofs.YtpchhfhmopmagaaGreat.Ga

/- gauge.New. -/
namespace Go.Proofs.YtpchhfhmopmagaaGreat.Ga
open Go.RowKit Go.Maps Go.Proofs.YtpchhfhmopmagaaGreat.Wd Go.Proofs.YtpchhfhmopmagaaGreat.Li Go.Proofs.YtpchhfhmopmagaaGreat.Mp Go.Proofs.YtpchhfhmopmagaaGreat.Tr Go.Proofs.YtpchhfhmopmagaaGreat.Tp Go.Proofs.YtpchhfhmopmagaaGreat.Cl Go.Proofs.YtpchhfhmopmagaaGreat.So Go.Proofs.YtpchhfhmopmagaaGreat.Fi Go.Proofs.YtpchhfhmopmagaaGreat.Sw Go.Proofs.YtpchhfhmopmagaaGreat.Qu Go.Proofs.YtpchhfhmopmagaaGreat.Cf Go.Proofs.YtpchhfhmopmagaaGreat.Id
attribute [local go_sem] run_store_float Lx.opX Rel.oneOk
attribute [local irreducible] Lx.wpX

/-- the states of the first k classes, as they begin -/
def stK (l : List Cls) (now : Int) (k : Nat) (i : Int) : Option S3 := if i ∈ (ids (sortC l)).take k then (at? l i).map (fun c => newI c now) else none
def st0 (l : List Cls) (now : Int) (i : Int) : Option S3 := (at? l i).map (fun c => newI c now)
theorem stK_put {l : List Cls} {now : Int} {k : Nat} {i : Int} {x : Cls} (hk : (ids (sortC l))[k]? = some i) (hx : at? l i = some x) : (fun j => if j = i then some (newI x now) else stK l now k j) = stK l now (k + 1) := by
  funext j
  unfold stK
  rw [List.take_add_one, hk]
  by_cases e : j = i
  · subst e; simp [hx]
  · simp [e]
theorem stK_all (l : List Cls) (now : Int) : stK l now (ids (sortC l)).length = st0 l now := by
  funext j
  unfold stK st0
  rw [List.take_length]
  by_cases h : j ∈ ids (sortC l)
  · rw [if_pos h]
  · rw [if_neg h, at_none.2 (fun h2 => h ((sort_ids j).2 h2))]; rfl
theorem stK_zero (l : List Cls) (now : Int) : stK l now 0 = fun _ => none := by
  funext j; unfold stK; simp
/-- a gauge lies at g, its map at h, below B; its set at S -/
structure GaugeAt (w : World) (g h S : Nat) (st : Int → Option S3) : Prop where
  cell : w.heap[g]? = some (.cells #[.pointer (some ⟨S, 0, none⟩), .map (some h)] 122 (0, 0))
  map : StM w h 64 st
def NewgOk (l : List Cls) (now : Int) (S : Nat) (w : World) (e : Ending) (w' : World) : Prop := ∃ g h, e = .returned (.pointer (some ⟨g, 0, none⟩)) ∧ GaugeAt w' g h S (st0 l now) ∧ w.heap.size ≤ g ∧ w.heap.size ≤ h ∧ g ≠ h ∧ Below w.heap.size w w'
theorem sl_map {w w' : World} {B n : Nat} {A : Option Addr} {zs : List Int} {h : Nat} (hs : Sl w B 1 A n (St.I zs)) (hn : n = zs.length) (hm : ∃ es m, w.heap[h]? = some (.map es m)) (hb : ∀ q, q < B → q ≠ h → w'.heap[q]? = w.heap[q]?) : Sl w' B 1 A n (St.I zs) :=
  ⟨hs.1, fun h0 => by
    obtain ⟨a, ha, hB, hc⟩ := hs.2 h0
    have hne : a.block ≠ h := fun e => by
      obtain ⟨es, m, hm⟩ := hm
      have h1 := hc 0 (.int .i64 (zs[0]'(by omega))) (by unfold St.I; rw [List.getElem?_map, List.getElem?_eq_getElem (by omega)]; rfl)
      simp [World.cell?, Addr.add, e, hm] at h1
    exact ⟨a, ha, hB, fun j u hu => (World.cell?_of_block (w := w) (a := a.add j) (by rw [add_block]; exact hb a.block hB hne)).trans (hc j u hu)⟩⟩
set_option maxRecDepth 20000 in
set_option maxHeartbeats 4000000 in
theorem carry0_c (t r d : Int) (l : List Cls) (fs : List F) (R : Tp.Tree l) (hs : ∀ c ∈ l, c.share < 18446744073709551616) (S : Nat) (now : Int) (w : World) (hS : SetAt w w.heap.size S t r d l fs) :
    Calls Tryz.prog 44 #[.pointer none, .pointer (some ⟨S, 0, none⟩), .int .i64 now] w (NewgOk l now S w) := by
  have hmm := @run_makeMap Tryz.prog
  obtain ⟨T, Tb, q, A1, c1, A2, c2, hSl, hSc, hTr, _⟩ := hS
  have h64 := R.le
  have hG := R.good
  have hU0 : ((w.alloc (.map #[] 0)).alloc (.cells #[.pointer (some ⟨S, 0, none⟩), .map (some w.heap.size)] 122)).heap[w.heap.size]? = some (.map #[] 0) := (Below.heap_alloc _ _ _ (by simp)).trans (heap_alloc_new _ _)
  have hU1 : ((w.alloc (.map #[] 0)).alloc (.cells #[.pointer (some ⟨S, 0, none⟩), .map (some w.heap.size)] 122)).heap[w.heap.size + 1]? = some (.cells #[.pointer (some ⟨S, 0, none⟩), .map (some w.heap.size)] 122 (0, 0)) := by
    have := heap_alloc_new (w.alloc (.map #[] 0)) (.cells #[.pointer (some ⟨S, 0, none⟩), .map (some w.heap.size)] 122)
    simpa using this
  have hUb : Below w.heap.size w ((w.alloc (.map #[] 0)).alloc (.cells #[.pointer (some ⟨S, 0, none⟩), .map (some w.heap.size)] 122)) := ((Below.refl _ w).alloc (Nat.le_refl _) _).alloc (by simp) _
  have hUs : ((w.alloc (.map #[] 0)).alloc (.cells #[.pointer (some ⟨S, 0, none⟩), .map (some w.heap.size)] 122)).heap.size = w.heap.size + 2 := by simp
  have HU0 := Lib.hid hU0; have HU1 := Lib.hid hU1; have HUB := Lib.hid hUb; have HUS := Lib.hid hUs; have HTR := Lib.hid hTr; have HR := Lib.hid R; have HSH := Lib.hid hs; have HSC := Lib.hid hSc
  clear hU0 hU1 hUb hUs hTr R hs hSc
  have HID := Lib.hid (fun u (hu : Below w.heap.size w u) => tids_c T l h64 u ((HTR.out.below hu).up hu.size))
  unfold ListOk at HID
  go_enter Tryz.func44, Tryz.ntmps44
  go_upto_region 4 with fail
  generalize World.alloc (World.alloc w _) _ = U at *
  have s0 := cells_at ((HUB.out.block S hSl).trans HSC.out) 0 (.pointer (some ⟨T, 0, none⟩)) rfl
  go_wp2_with (first
    | (go_at_call 19; (with_reducible refine (settree_c _ _ _ s0).mono ?_); rintro e w' ⟨rfl, rfl⟩)
    | (go_at_call 23; (with_reducible refine (HID.out _ HUB.out).mono ?_); rintro e w2 ⟨A3, c3, rfl, hs2, hb2⟩; have HS2 := Lib.hid hs2; have HB2 := Lib.hid hb2; clear hs2 hb2))
  have hus := HUS.out
  have hw2 := HB2.out.size
  have K0 := Lib.hid ((HB2.out.block w.heap.size (by omega)).trans HU0.out)
  have K1 := Lib.hid ((HB2.out.block (w.heap.size + 1) (by omega)).trans HU1.out)
  have W2 := Lib.hid (HUB.out.trans (HB2.out.mono HUB.out.size))
  have hn2 : w.heap.size + 1 < w2.heap.size := by omega
  have hlen := ids_len l
  have HLEN := Lib.hid hlen
  obtain ⟨zs, hzs⟩ : ∃ zs, zs = ids (sortC l) := ⟨_, rfl⟩
  rw [← hzs] at HS2 ⊢
  have HZS := Lib.hid hzs
  have hzl : zs.length ≤ 64 := by rw [hzs, hlen]; exact h64
  clear hus hw2 HU0 HU1 HUS HID s0 hlen hzs
  go_loopg [24] zs.length (fun kx s24 wr => ∃ k : Nat, s24 = .int .i64 k ∧ k ≤ zs.length ∧ zs.length - k ≤ kx ∧ Hid (StM wr w.heap.size k (stK l now k)) ∧ Hid (∀ q, q < w2.heap.size → q ≠ w.heap.size → wr.heap[q]? = w2.heap[q]?) ∧ w2.heap.size ≤ wr.heap.size ∧ Hid (Below w.heap.size w wr))
  case atStart => exact ⟨0, rfl, by omega, by omega, Lib.hid (by rw [stK_zero]; exact At.made_block K0.out), Lib.hid (fun _ _ _ => rfl), Nat.le_refl _, W2⟩
  case round =>
    obtain ⟨k, rfl, hk, hkx, HM, HQ, hwr, HW⟩ := hrel
    have hSr := Lib.hid (sl_map HS2.out rfl ⟨_, _, K0.out⟩ HQ.out)
    have s0 := cells_at ((HW.out.block S hSl).trans HSC.out) 0 (.pointer (some ⟨T, 0, none⟩)) rfl
    by_cases hlt : k < zs.length
    · have hltz : (k : Int) < (zs.length : Int) := by omega
      obtain ⟨a, rfl, hab, hac⟩ := hSr.out.2 (by omega)
      obtain ⟨id, hid⟩ : ∃ id, zs[k]? = some id := ⟨_, List.getElem?_eq_getElem hlt⟩
      have ck := hac k (.int .i64 id) (by unfold St.I; rw [List.getElem?_map, hid]; rfl)
      have hidl : id ∈ ids l := (sort_ids id).1 (by rw [← HZS.out]; exact List.mem_of_getElem? hid)
      obtain ⟨x, hx⟩ : ∃ x, at? l id = some x := by
        cases ha : at? l id with
        | none => exact absurd hidl (at_none.1 ha)
        | some x => exact ⟨x, rfl⟩
      have hxm := at_mem hx
      have hxp := hG.pos x hxm.1
      have hwf := wf_id (i := id) (by rw [← hxm.2]; omega)
      have HC := Lib.hid (fun u (hu : Below w.heap.size w u) => tclass_c T l id hwf u ((HTR.out.below hu).up hu.size))
      unfold ClassOk at HC
      rw [hx] at HC
      simp only [Option.getD_some, Option.isSome_some] at HC
      unfold clsV at HC
      have HN := Lib.hid (fun u => state_nil id u)
      unfold StateOk at HN
      simp only [Option.getD_none, Option.isSome_none] at HN
      unfold S3.nil S3.agg at HN
      have HNW := Lib.hid (fun u => new_c x (HSH.out x hxm.1) (HR.out.right x hxm.1) now u)
      unfold Cls.agg at HNW
      have HX := Lib.hid hx; have HIDK := Lib.hid hid
      clear hx hid hidl hxm hxp hac hab
      go_upto_region 8 with (first
        | (go_at_call 19; (with_reducible refine (settree_c _ _ _ s0).mono ?_); rintro e w' ⟨rfl, rfl⟩)
        | (go_at_call 63; (with_reducible refine (HC.out _ HW.out).mono ?_); rintro e w3 ⟨rfl, hb3⟩; have HB3 := Lib.hid hb3; clear hb3))
      have hs3 := HB3.out.size
      have hcb := row_new w3 84 x.cells
      have hWc := (HW.out.trans (HB3.out.mono HW.out.size)).alloc (by have := HW.out.size; omega) (.cells #[.int .i64 x.id, .int .i64 x.parent, .float .f64 x.share, .int .i64 x.prio, .int .i64 x.quantum, .int .i64 x.limit, .int .i64 x.weight, .int .i64 x.minIdle, .int .i64 x.maxIdle, .bool x.bounded, .bool x.isolated] 84)
      have hBc := (HB3.out).alloc hs3 (.cells #[.int .i64 x.id, .int .i64 x.parent, .float .f64 x.share, .int .i64 x.prio, .int .i64 x.quantum, .int .i64 x.limit, .int .i64 x.weight, .int .i64 x.minIdle, .int .i64 x.maxIdle, .bool x.bounded, .bool x.isolated] 84)
      have hzc : (w3.alloc (.cells #[.int .i64 x.id, .int .i64 x.parent, .float .f64 x.share, .int .i64 x.prio, .int .i64 x.quantum, .int .i64 x.limit, .int .i64 x.weight, .int .i64 x.minIdle, .int .i64 x.maxIdle, .bool x.bounded, .bool x.isolated] 84)).heap.size = w3.heap.size + 1 := by simp
      unfold Cls.cells at hcb
      generalize World.alloc w3 _ = u at *
      have HCB := Lib.hid hcb; have HWc := Lib.hid hWc; have HBc := Lib.hid hBc
      obtain ⟨cb, hcbd⟩ : ∃ cb, cb = w3.heap.size := ⟨_, rfl⟩
      rw [← hcbd] at HCB hzc ⊢
      have hcbl : w2.heap.size ≤ cb := by omega
      have hcbu : cb < u.heap.size := by omega
      have huw : wr.heap.size ≤ u.heap.size := by omega
      clear hcb hWc hBc hzc hcbd s0 ck HB3 hs3
      go_upto_region 9 with (first
        | (go_at_call 24; (with_reducible refine (HN.out _).mono ?_); rintro e w4 ⟨rfl, hb4⟩; have HB4 := Lib.hid hb4; clear hb4))
      have hs4 := HB4.out.size
      have hb5 := (HB4.out).alloc hs4 (.cells #[.int .i64 0, .int .i64 0, .int .i64 0] 46)
      have hz5 : (w4.alloc (.cells #[.int .i64 0, .int .i64 0, .int .i64 0] 46)).heap.size = w4.heap.size + 1 := by simp
      generalize World.alloc w4 _ = v at *
      have HB5 := Lib.hid hb5
      have huv : u.heap.size ≤ v.heap.size := by omega
      have kcb := Lib.hid ((hb5.block cb hcbu).trans HCB.out)
      have hBv := Lib.hid (HBc.out.trans (hb5.mono huw))
      have hgr : v.heap[w.heap.size + 1]? = some (.cells #[.pointer (some ⟨S, 0, none⟩), .map (some w.heap.size)] 122 (0, 0)) := (hBv.out.block (w.heap.size + 1) (by omega)).trans ((HQ.out (w.heap.size + 1) hn2 (by omega)).trans K1.out)
      have hMv := Lib.hid (HM.out.below hBv.out HM.out.lt)
      have hWv := Lib.hid (HW.out.trans (hBv.out.mono HW.out.size))
      have hQv : Hid (∀ q, q < w2.heap.size → q ≠ w.heap.size → v.heap[q]? = w2.heap[q]?) := Lib.hid (fun q hq hne => (hBv.out.block q (by omega)).trans (HQ.out q hq hne))
      have g1 := cells_at hgr 1 (.map (some w.heap.size)) rfl
      have f0 := cells_at kcb.out 0 (.int .i64 x.id) rfl; have f1 := cells_at kcb.out 1 (.int .i64 x.parent) rfl; have f2 := cells_at kcb.out 2 (.float .f64 x.share) rfl; have f3 := cells_at kcb.out 3 (.int .i64 x.prio) rfl; have f4 := cells_at kcb.out 4 (.int .i64 x.quantum) rfl; have f5 := cells_at kcb.out 5 (.int .i64 x.limit) rfl; have f6 := cells_at kcb.out 6 (.int .i64 x.weight) rfl; have f7 := cells_at kcb.out 7 (.int .i64 x.minIdle) rfl; have f8 := cells_at kcb.out 8 (.int .i64 x.maxIdle) rfl; have f9 := cells_at kcb.out 9 (.bool x.bounded) rfl; have f10 := cells_at kcb.out 10 (.bool x.isolated) rfl
      have hsz1 : w.heap.size + 1 < v.heap.size := by omega
      have hsz2 : cb < v.heap.size := by omega
      have hsv : w2.heap.size ≤ v.heap.size := by omega
      clear hs4 hb5 hz5 hgr HB4 HB5 huv huw hcbu HCB HBc
      go_upto_region 11 with fail
      have hSW : ∀ q, (q = w.heap.size + 1 ∨ q = cb) → q < v.heap.size := fun q hq => by rcases hq with e | e <;> omega
      have HSW := Lib.hid hSW
      have HD0 := Lib.hid ((Below.refl v.heap.size v).drew)
      clear hSW
      refine Lx.wp_region_X 8 (fun w' => ∃ z, w' = Lx.kept (fun q => q = w.heap.size + 1 ∨ q = cb) v.drew z) (fun i => i == 7) (by kernel_rfl) (by kernel_rfl) (Lx.kept_of (Lx.Keeps.refl _ _)) ?_
      simp only [List.take_succ_cons, List.take_zero, List.drop_succ_cons, List.drop_zero]
      repeat (refine Lx.wpX_step (fun K hK => ?_); first | (refine Lx.opX_free (by rfl) (by rfl) (by rfl) ?_; go_big_quiet_op; refine hK _ _ ?_; clear hK K) | (refine Lx.opX_nil (by rfl) (by rfl) (by rfl) (by rfl) ?_; refine hK _ _ ?_; clear hK K; simp only [Act.put, List.setIfInBounds_toArray, List.set_cons_succ, List.set_cons_zero]))
      refine Lx.wpX_step (fun K hK => ?_)
      refine Lx.opX_law (by rfl) (by rfl) ?_
      go_wp2_with (go_at_call 91; (with_reducible refine (HNW.out _).mono ?_); rintro e W1 ⟨rfl, hb1⟩; have hbk := HD0.out.trans hb1; have HB1 := Lib.hid hbk; clear hb1 hbk)
      refine Lx.nq_mk (Lx.kept_of (fun g hg => HB1.out.block g (HSW.out g hg))) (hK _ _ ?_)
      clear hK K
      refine Lx.wpX_nil ?_
      have hMw := Lib.hid (hMv.out.below HB1.out hMv.out.lt)
      have hs1 := HB1.out.size
      clear g1 f0 f1 f2 f3 f4 f5 f6 f7 f8 f9 f10
      go_wp2_with (first | (refine wpList_put s3_kind (by rfl) _ _ _ 120 (by rfl) 3 46 Tryz.underlying3 Tryz.underlying120 S3.nil w.heap.size k (stK l now k) _ (by rfl) hMw.out (by omega) id (newI x now) (by rfl) (by rfl) hwf ?_; intro w10 hm10 hg10; have HM10 := Lib.hid hm10; have HG10 := Lib.hid hg10; clear hm10 hg10))
      have hs10 := HG10.out.size
      go_roundg (zs.length - (k + 1))
      case measure => omega
      case rel =>
        refine ⟨k + 1, by go_num, by omega, by omega, Lib.hid ?_, Lib.hid (fun q hq hne => (HG10.out.block q (by omega) (fun e => hne (by injection e))).trans ((HB1.out.block q (by omega)).trans (hQv.out q hq hne))), by omega, Lib.hid ((hWv.out.trans (HB1.out.mono hWv.out.size)).grown HG10.out (by have := hWv.out.size; omega) (fun q hq => by injection hq; omega))⟩
        rw [← stK_put (by rw [← HZS.out]; exact HIDK.out) HX.out]
        exact HM10.out
    · have hltz : ¬ (k : Int) < (zs.length : Int) := by omega
      obtain rfl : k = zs.length := by omega
      go_wp2_with fail
      go_ret
      refine ⟨w.heap.size + 1, w.heap.size, rfl, ⟨(HQ.out _ hn2 (by omega)).trans K1.out, ?_⟩, by omega, Nat.le_refl _, by omega, HW.out⟩
      have h1 := HM.out
      rw [HZS.out, stK_all] at h1
      exact h1.more (by rw [HLEN.out]; exact h64)
set_option maxRecDepth 20000 in
theorem newg_c (t r d : Int) (l : List Cls) (fs : List F) (R : Tp.Tree l) (hs : ∀ c ∈ l, c.share < 18446744073709551616) (S : Nat) (now : Int) (w : World) (hS : SetAt w w.heap.size S t r d l fs) :
    Calls Tryz.prog 21 #[.pointer (some ⟨S, 0, none⟩), .int .i64 now] w (NewgOk l now S w) := by
  have HC := Lib.hid (carry0_c t r d l fs R hs S now w hS)
  unfold NewgOk at HC ⊢
  go_enter Tryz.func21, Tryz.ntmps21
  go_wp2_with (go_at_call 44; (with_reducible refine (HC.out).mono ?_); rintro e w' ⟨g, h, rfl, h1, h2, h3, h4, h5⟩; have H1 := Lib.hid h1; have H5 := Lib.hid h5; clear h1 h5)
  go_ret
  exact ⟨g, h, rfl, H1.out, h2, h3, h4, H5.out⟩
end Go.Proofs.YtpchhfhmopmagaaGreat.Ga

/- gauge.Sent. -/
namespace Go.Proofs.YtpchhfhmopmagaaGreat.Ga
open Go.RowKit Go.Shelf Go.Maps Go.Proofs.YtpchhfhmopmagaaGreat.Wd Go.Proofs.YtpchhfhmopmagaaGreat.Li Go.Proofs.YtpchhfhmopmagaaGreat.Mp Go.Proofs.YtpchhfhmopmagaaGreat.Tr Go.Proofs.YtpchhfhmopmagaaGreat.Tp Go.Proofs.YtpchhfhmopmagaaGreat.Cl Go.Proofs.YtpchhfhmopmagaaGreat.So Go.Proofs.YtpchhfhmopmagaaGreat.Fi Go.Proofs.YtpchhfhmopmagaaGreat.Sw Go.Proofs.YtpchhfhmopmagaaGreat.Qu Go.Proofs.YtpchhfhmopmagaaGreat.Cf Go.Proofs.YtpchhfhmopmagaaGreat.Id Go.Proofs.YtpchhfhmopmagaaGreat.Pa
attribute [local go_sem] Oper.semAt_some run_store_float Lx.opX Rel.oneOk
attribute [local irreducible] Lx.wpX

/-- what one class's state becomes -/
def stepM (l : List Cls) (tpb size now : Int) (st : Int → Option S3) (x : Ci l) : Int → Option S3 := fun i => if i = x.1.id then some (sentI ((st x.1.id).getD S3.nil) x.1 (exactS tpb (uAt l x.1.id : Int) size) now) else st i
def sentM (l : List Cls) (tpb size now : Int) (st : Int → Option S3) (pre : List (Ci l)) : Int → Option S3 := pre.foldl (stepM l tpb size now) st
theorem sentM_push {l : List Cls} {tpb size now : Int} {st : Int → Option S3} {pre : List (Ci l)} {x : Ci l} : sentM l tpb size now st (pre ++ [x]) = stepM l tpb size now (sentM l tpb size now st pre) x := by unfold sentM; rw [List.foldl_append]; rfl
def SentOk (l : List Cls) (tpb size now leaf : Int) (st : Int → Option S3) (g h S : Nat) (w : World) (e : Ending) (w' : World) : Prop := e = .returned (.bool true) ∧ GaugeAt w' g h S (sentM l tpb size now st (way l leaf)) ∧ w.grownBy w' (some h)
theorem ghb {A B C D : World} {h : Nat} (h1 : Below A.heap.size A B) (h2 : B.grownBy C (some h)) (h3 : Below B.heap.size C D) : A.grownBy D (some h) :=
  ⟨h3.os.trans (h2.os.trans h1.os), h3.tape.trans (h2.tape.trans h1.tape), h3.output.trans (h2.output.trans h1.output), Nat.le_trans h1.size (Nat.le_trans h2.size h3.size), fun k hk hne => (h3.block k (Nat.lt_of_lt_of_le hk h1.size)).trans ((h2.block k (Nat.lt_of_lt_of_le hk h1.size) hne).trans (h1.block k hk))⟩
theorem gcomp {A B C : World} {h : Nat} (h1 : Below A.heap.size A B) (h2 : B.grownBy C (some h)) : A.grownBy C (some h) :=
  ⟨h2.os.trans h1.os, h2.tape.trans h1.tape, h2.output.trans h1.output, Nat.le_trans h1.size h2.size, fun k hk hne => (h2.block k (Nat.lt_of_lt_of_le hk h1.size) hne).trans (h1.block k hk)⟩
theorem at_isMap {w : World} {h n : Nat} {st : Int → Option S3} (m : StM w h n st) : ∃ es k, w.heap[h]? = some (.map es k) := by
  obtain ⟨D, ⟨es, ck, hm, _⟩, _⟩ := m
  exact ⟨es, ck, hm⟩
theorem sentM_in {l : List Cls} {tpb size now : Int} : ∀ (pre : List (Ci l)) (st : Int → Option S3), (∀ i, (st i).isSome = true → i ∈ ids l) → ∀ i, (sentM l tpb size now st pre i).isSome = true → i ∈ ids l
  | [], st, h, i, hi => h i hi
  | x :: xs, st, h, i, hi => by
    refine sentM_in xs (stepM l tpb size now st x) (fun j hj => ?_) i hi
    unfold stepM at hj
    split at hj
    · rename_i e
      rw [e]
      exact List.mem_map.2 ⟨x.1, (at_mem x.2).1, rfl⟩
    · exact h j hj
theorem trans_grown {A B C : World} {h N : Nat} {row : Option Nat} (h1 : A.grownBy B (some h)) (h2 : B.grownBy C row) (hr : ∀ k, row = some k → N ≤ k) (hN : A.heap.size ≤ N) : A.grownBy C (some h) :=
  ⟨h2.os.trans h1.os, h2.tape.trans h1.tape, h2.output.trans h1.output, Nat.le_trans h1.size h2.size, fun k hk hne => (h2.block k (Nat.lt_of_lt_of_le hk h1.size) (fun e => by have := hr k e.symm; omega)).trans (h1.block k hk hne)⟩
set_option maxRecDepth 20000 in
set_option maxHeartbeats 4000000 in
theorem gsent_in (n : Nat) (hn : 6 ≤ n) (t r d : Int) (l : List Cls) (fs : List F) (R : Tp.Tree l) (hs : ∀ c ∈ l, c.share < 18446744073709551616) (g h S n₀ : Nat) (st : Int → Option S3) (leaf size now : Int) (hlw : (Lit.int .i64 leaf).wf = true) (hlf : leafB l leaf = true) (w : World)
    (hst : ∀ i, (st i).isSome = true → i ∈ ids l) (hn0 : n₀ ≤ w.heap.size) (hgn : n₀ ≤ g) (hhn : n₀ ≤ h) (hgh : g ≠ h) (hS : SetAt w n₀ S t r d l fs) (hG : GaugeAt w g h S st) :
    CallsIn Fence.wide n Tryz.prog 22 #[.pointer (some ⟨g, 0, none⟩), .int .i64 leaf, .int .i64 size, .int .i64 now] w (SentOk l t size now leaf st g h S w) := by
  have h1' : 1 ≤ n := by omega
  obtain ⟨T, Tb, q, A1, c1, A2, c2, hSl, hSc, hTr, _, hQu, _⟩ := hS
  have hgl := (Array.getElem?_eq_some_iff.1 hG.cell).1
  have hhl := hG.map.lt
  have HG := Lib.hid hG; have HSC := Lib.hid hSc; have HTR := Lib.hid hTr; have HQU := Lib.hid hQu; have HR := Lib.hid R; have HSH := Lib.hid hs
  have hU0 : (((w.alloc (.cells #[.pointer (some ⟨g, 0, none⟩)] 42)).alloc (.cells #[.int .i64 size] 3)).alloc (.cells #[.int .i64 now] 3)).heap[w.heap.size]? = some (.cells #[.pointer (some ⟨g, 0, none⟩)] 42 (0, 0)) := (Below.heap_alloc _ _ _ (by simp; omega)).trans ((Below.heap_alloc _ _ _ (by simp)).trans (heap_alloc_new _ _))
  have hU1 : (((w.alloc (.cells #[.pointer (some ⟨g, 0, none⟩)] 42)).alloc (.cells #[.int .i64 size] 3)).alloc (.cells #[.int .i64 now] 3)).heap[w.heap.size + 1]? = some (.cells #[.int .i64 size] 3 (0, 0)) := (Below.heap_alloc _ _ _ (by simp)).trans (by have := heap_alloc_new (w.alloc (.cells #[.pointer (some ⟨g, 0, none⟩)] 42)) (.cells #[.int .i64 size] 3); simpa using this)
  have hU2 : (((w.alloc (.cells #[.pointer (some ⟨g, 0, none⟩)] 42)).alloc (.cells #[.int .i64 size] 3)).alloc (.cells #[.int .i64 now] 3)).heap[w.heap.size + 2]? = some (.cells #[.int .i64 now] 3 (0, 0)) := by have := heap_alloc_new ((w.alloc (.cells #[.pointer (some ⟨g, 0, none⟩)] 42)).alloc (.cells #[.int .i64 size] 3)) (.cells #[.int .i64 now] 3); simpa using this
  have hUb := cbx_b w (.cells #[.pointer (some ⟨g, 0, none⟩)] 42) (.cells #[.int .i64 size] 3) (.cells #[.int .i64 now] 3)
  have hUs : (((w.alloc (.cells #[.pointer (some ⟨g, 0, none⟩)] 42)).alloc (.cells #[.int .i64 size] 3)).alloc (.cells #[.int .i64 now] 3)).heap.size = w.heap.size + 3 := by simp
  have HU0 := Lib.hid hU0; have HU1 := Lib.hid hU1; have HU2 := Lib.hid hU2; have HUB := Lib.hid hUb; have HUS := Lib.hid hUs
  clear hU0 hU1 hU2 hUb hUs hG hSc hTr hQu R hs
  have HLF := Lib.hid (fun u (hu : Below w.heap.size w u) => tleaf_c T l leaf hlw u ((HTR.out.below (hu.mono hn0)).up (Nat.le_trans hn0 hu.size)))
  rw [hlf] at HLF
  have HLB := Lib.hid hlf
  clear hlf
  refine callsIn_of_wp_marks Tryz.func22 rfl trivial ?_ rfl
  simp only [Tryz.ntmps22, List.size_toArray, List.length_cons, List.length_nil, Nat.reduceAdd, Nat.reduceSub, Array.replicate_succ, Array.replicate_zero, List.push_toArray, List.append_toArray, List.nil_append, List.cons_append]
  gi_upto_region 1 with fail
  have e2 : w.heap.size + 1 + 1 = w.heap.size + 2 := rfl
  rw [e2]
  clear e2
  generalize World.alloc (World.alloc (World.alloc w _) _) _ = U at *
  have hus := HUS.out
  have x4 := cells_at HU0.out 0 (.pointer (some ⟨g, 0, none⟩)) rfl
  have g0 := cells_at ((HUB.out.block g hgl).trans HG.out.cell) 0 (.pointer (some ⟨S, 0, none⟩)) rfl
  have s0 := cells_at ((HUB.out.block S (by omega)).trans HSC.out) 0 (.pointer (some ⟨T, 0, none⟩)) rfl
  gi_upto_region 3 with (first
    | (refine ⟨trivial, ?_⟩; gi_at_call 19; refine (callsIn_wide.2 (settree_c _ _ _ s0)).mono ?_; rintro e w' ⟨rfl, rfl⟩)
    | (refine ⟨trivial, ?_⟩; gi_at_call 61; refine (callsIn_wide.2 (HLF.out _ HUB.out)).mono ?_; rintro e w1 ⟨rfl, hb1⟩; have HB1 := Lib.hid hb1; clear hb1))
  have hw1 := HB1.out.size
  have HX0 := Lib.hid ((HB1.out.block w.heap.size (by omega)).trans HU0.out); have HX1 := Lib.hid ((HB1.out.block (w.heap.size + 1) (by omega)).trans HU1.out); have HX2 := Lib.hid ((HB1.out.block (w.heap.size + 2) (by omega)).trans HU2.out)
  have HBW := Lib.hid (HUB.out.trans (HB1.out.mono HUB.out.size))
  have hn1 : w.heap.size + 2 < w1.heap.size := by omega
  clear x4 g0 s0 HU0 HU1 HU2 HUB HUS hus hw1 HB1 HLF
  have x4 := cells_at HX0.out 0 (.pointer (some ⟨g, 0, none⟩)) rfl
  have g0 := cells_at ((HBW.out.block g hgl).trans HG.out.cell) 0 (.pointer (some ⟨S, 0, none⟩)) rfl
  have s0 := cells_at ((HBW.out.block S (by omega)).trans HSC.out) 0 (.pointer (some ⟨T, 0, none⟩)) rfl
  gi_wp2_with (first
    | (refine ⟨trivial, ?_⟩; gi_at_call 19; refine (callsIn_wide.2 (settree_c _ _ _ s0)).mono ?_; rintro e w' ⟨rfl, rfl⟩)
    | (refine ⟨trivial, ?_⟩; gi_at_call 62; refine (callsIn_wide.2 (up_c _ _ _)).mono ?_; rintro e w' ⟨rfl, rfl⟩))
  have hb00 := (((Below.refl w1.heap.size w1).alloc (Nat.le_refl _) (.cells #[.pointer (some ⟨T, 0, none⟩)] 39)).alloc (by simp) (.cells #[.int .i64 leaf] 3))
  have b7 : Boxed ((w1.alloc (.cells #[.pointer (some ⟨T, 0, none⟩)] 39)).alloc (.cells #[.int .i64 leaf] 3)) w1.heap.size 39 (.pointer (some ⟨T, 0, none⟩)) := (Boxed.new w1 _ _).alloc _
  have b8 : Boxed ((w1.alloc (.cells #[.pointer (some ⟨T, 0, none⟩)] 39)).alloc (.cells #[.int .i64 leaf] 3)) (w1.heap.size + 1) 3 (.int .i64 leaf) := by have := Boxed.new (w1.alloc (.cells #[.pointer (some ⟨T, 0, none⟩)] 39)) 3 (.int .i64 leaf); rw [World.size_alloc] at this; exact this
  have hz00 : ((w1.alloc (.cells #[.pointer (some ⟨T, 0, none⟩)] 39)).alloc (.cells #[.int .i64 leaf] 3)).heap.size = w1.heap.size + 2 := by simp
  obtain ⟨W0, hW0⟩ : ∃ W0, (w1.alloc (.cells #[.pointer (some ⟨T, 0, none⟩)] 39)).alloc (.cells #[.int .i64 leaf] 3) = W0 := ⟨_, rfl⟩
  rw [hW0] at hb00 b7 b8 hz00 ⊢
  clear hW0
  obtain ⟨N, hN⟩ : ∃ N, N = w1.heap.size := ⟨_, rfl⟩
  rw [← hN] at b7 b8 hz00 ⊢
  have hX0 := Lib.hid ((hb00.block w.heap.size (by omega)).trans HX0.out); have hX1 := Lib.hid ((hb00.block (w.heap.size + 1) (by omega)).trans HX1.out); have hX2 := Lib.hid ((hb00.block (w.heap.size + 2) (by omega)).trans HX2.out)
  have hBW := HBW.out.trans (hb00.mono HBW.out.size)
  have hWs : w.heap.size + 4 < W0.heap.size := by omega
  have hNs : N + 1 < W0.heap.size := by omega
  have hNn : n₀ ≤ N := by omega
  have hTr0 := HTR.out.below (hBW.mono hn0)
  have HBW0 := Lib.hid hBW
  clear hb00 hz00 hN x4 g0 s0 HX0 HX1 HX2 HBW hn1
  have hM0 : StM W0 h 64 st := HG.out.map.below hBW hhl
  refine wpIn_rangeFunc_ownH (F := Fence.wide) rfl h1' (gf := 136) (lb := #[.pointer (some ⟨N + 1, 0, none⟩), .pointer (some ⟨N, 0, none⟩)]) rfl trivial (enters_of Tryz.func136 (by kernel_rfl) rfl)
    (up_stops (n - 1) (by omega) (N + 1) N n₀ l (.inr HR.out) leaf hlw (.pointer (some ⟨T, 0, none⟩)) W0 (by omega) (by omega) (by omega) b8.cell b7 (.inr ⟨T, rfl, hTr0, HR.out⟩)) KpU.trans (kpU_b (by omega)) (Below.refl _ _) (fun _ => rfl)
    (fun pre W => StM W h 64 (sentM l t size now st pre) ∧ W0.grownBy W (some h))
    (fun c pre W => False)
    (fun pre A B row hs hg hr => ⟨hs.1.grown hg (fun e => by have := (hr h e).1; omega), trans_grown hs.2 hg (fun k e => (hr k e).1) (Nat.le_refl _)⟩)
    (fun c s A B row hs hg hr => hs)
    ⟨hM0, ⟨rfl, rfl, rfl, Nat.le_refl _, fun _ _ _ => rfl⟩⟩
    (fun x a' W => a' = { tmps := #[Value.pointer (some { block := g, off := 0 }), Value.int IntKind.i64 leaf, Value.int IntKind.i64 size, Value.int IntKind.i64 now, Value.pointer (some { block := w.heap.size, off := 0 }), undef, Value.pointer (some { block := w.heap.size + 1, off := 0 }), Value.pointer (some { block := w.heap.size + 2, off := 0 }), Value.bool false, Value.int IntKind.i64 x.1.id, undef, undef, Value.pointer (some { block := g, off := 0 }), Value.bool false, Value.bool false, Value.pointer (some { block := g, off := 0 }), Value.pointer (some { block := g, off := 0 }), Value.pointer (some { block := g, off := 0 }), Value.pointer (some { block := S, off := 0 }), Value.pointer (some { block := T, off := 0 }), Value.int IntKind.i64 leaf, Value.bool true, Value.bool false, Value.bool false, Value.pointer (some { block := g, off := 0 }), Value.pointer (some { block := g, off := 0 }), Value.pointer (some { block := g, off := 0 }), Value.pointer (some { block := S, off := 0 }), Value.pointer (some { block := T, off := 0 }), Value.int IntKind.i64 leaf, Value.func (Fn.func 136) #[] #[Value.pointer (some { block := N + 1, off := 0 }), Value.pointer (some { block := N, off := 0 })], Value.int IntKind.i64 x.1.id, undef, undef, undef, undef, undef, undef, undef, undef, undef, undef, undef, undef, undef, undef, undef, undef, undef, undef, undef, undef, undef, undef, undef, undef, undef, undef, undef, undef, undef, undef, undef, undef], defers := [] })
    (fun x a' _ X Y row hs hg hr => hs)
    ?assign ?body ?done ?stop
  case assign =>
    rintro k pre x W K hI hK
    dsimp only [encU]
    gi_wp2
    exact hK _ _ ((KeepsOthers.refl _).from _) (KpU.refl _ _) hI rfl
  case body =>
    rintro k pre x a' W hl ⟨rr, hrr⟩ ⟨hM, hgr⟩ rfl hlt
    have hWl := hgr.size
    have kp : ∀ q, q < W0.heap.size → q ≠ h → W.heap[q]? = W0.heap[q]? := fun q hq hne => hgr.block q hq (fun e => hne (by injection e))
    have hBn : Below n₀ W0 W := (Below.refl n₀ W0).grown hgr (by omega) (fun q hq => by injection hq; omega)
    have hgW : W.heap[g]? = some (.cells #[.pointer (some ⟨S, 0, none⟩), .map (some h)] 122 (0, 0)) := (kp g (by omega) hgh).trans ((HBW0.out.block g hgl).trans HG.out.cell)
    have hSW := (kp S (by omega) (by omega)).trans ((HBW0.out.block S (by omega)).trans HSC.out)
    have k4 := (kp w.heap.size (by omega) (by omega)).trans hX0.out; have k6 := (kp (w.heap.size + 1) (by omega) (by omega)).trans hX1.out; have k7 := (kp (w.heap.size + 2) (by omega) (by omega)).trans hX2.out
    have hTW := Lib.hid (hTr0.below hBn); have hQW := Lib.hid ((HQU.out.below (HBW0.out.mono hn0)).below hBn)
    have hxm := at_mem x.2
    have hxp := HR.out.good.pos x.1 hxm.1
    have hwf := wf_id (i := x.1.id) (by omega)
    have HC := Lib.hid (tclass_c T l x.1.id hwf W (hTW.out.up (by omega)))
    unfold ClassOk at HC
    rw [x.2] at HC
    simp only [Option.getD_some, Option.isSome_some] at HC
    unfold clsV at HC
    obtain ⟨stp, hstp⟩ : ∃ stp, stp = sentM l t size now st pre := ⟨_, rfl⟩
    rw [← hstp] at hM
    have HSTP := Lib.hid hstp
    have HIN := Lib.hid (fun i => sentM_in (tpb := t) (size := size) (now := now) pre st hst i)
    rw [← hstp] at HIN
    have HSE := Lib.hid (fun (time : Int) u => sent_c ((stp x.1.id).getD S3.nil) x.1 (HSH.out x.1 hxm.1) (HR.out.right x.1 hxm.1) time now u)
    have HEX : ∃ tm : Int, tm = (exactS t (uAt l x.1.id : Int) size : Int) := ⟨_, rfl⟩
    obtain ⟨tm, htm⟩ := HEX
    have HTM := Lib.hid htm
    have HK := Lib.hid kp; have HM := Lib.hid hM; have HGR := Lib.hid hgr; have HGW := Lib.hid hgW; have HSW := Lib.hid hSW; have K4 := Lib.hid k4; have K6 := Lib.hid k6; have K7 := Lib.hid k7
    have x4 := cells_at k4 0 (.pointer (some ⟨g, 0, none⟩)) rfl
    have g0 := cells_at hgW 0 (.pointer (some ⟨S, 0, none⟩)) rfl
    have s0 := cells_at hSW 0 (.pointer (some ⟨T, 0, none⟩)) rfl
    clear hstp kp hM hgr hgW hSW k4 k6 k7 hxm hxp htm hBn
    gi_upto_region 6 with (first
      | (refine ⟨trivial, fun _ => by omega, ?_⟩; refine (CallsIn.inRound k (callsIn_wide.2 (settree_c _ _ _ s0))).mono ?_; rintro e w' ⟨rfl, rfl⟩)
      | (refine ⟨trivial, fun _ => by omega, ?_⟩; refine (CallsIn.inRound k (callsIn_wide.2 HC.out)).mono ?_; rintro e w3 ⟨rfl, hb3⟩; have HB3 := Lib.hid hb3; clear hb3))
    have hs3 := HB3.out.size
    have hcb := row_new w3 84 x.1.cells
    have hBc := (HB3.out).alloc hs3 (.cells #[.int .i64 x.1.id, .int .i64 x.1.parent, .float .f64 x.1.share, .int .i64 x.1.prio, .int .i64 x.1.quantum, .int .i64 x.1.limit, .int .i64 x.1.weight, .int .i64 x.1.minIdle, .int .i64 x.1.maxIdle, .bool x.1.bounded, .bool x.1.isolated] 84)
    have hzc : (w3.alloc (.cells #[.int .i64 x.1.id, .int .i64 x.1.parent, .float .f64 x.1.share, .int .i64 x.1.prio, .int .i64 x.1.quantum, .int .i64 x.1.limit, .int .i64 x.1.weight, .int .i64 x.1.minIdle, .int .i64 x.1.maxIdle, .bool x.1.bounded, .bool x.1.isolated] 84)).heap.size = w3.heap.size + 1 := by simp
    unfold Cls.cells at hcb
    generalize World.alloc w3 _ = u at *
    have HCB := Lib.hid hcb; have HBc := Lib.hid hBc
    obtain ⟨cb, hcbd⟩ : ∃ cb, cb = w3.heap.size := ⟨_, rfl⟩
    rw [← hcbd] at HCB hzc ⊢
    have hcbu : cb < u.heap.size := by omega
    have huw : W.heap.size ≤ u.heap.size := by omega
    have kk := fun (q : Nat) (hq : q < W.heap.size) => hBc.block q hq
    have x4 := cells_at ((kk w.heap.size (by omega)).trans K4.out) 0 (.pointer (some ⟨g, 0, none⟩)) rfl
    have x6 := cells_at ((kk (w.heap.size + 1) (by omega)).trans K6.out) 0 (.int .i64 size) rfl
    have x7 := cells_at ((kk (w.heap.size + 2) (by omega)).trans K7.out) 0 (.int .i64 now) rfl
    have g0 := cells_at ((kk g (by omega)).trans HGW.out) 0 (.pointer (some ⟨S, 0, none⟩)) rfl
    have g1 := cells_at ((kk g (by omega)).trans HGW.out) 1 (.map (some h)) rfl
    have s2 := cells_at ((kk S (by omega)).trans HSW.out) 2 (.pointer (some ⟨q, 0, none⟩)) rfl
    have f0 := cells_at HCB.out 0 (.int .i64 x.1.id) rfl; have f1 := cells_at HCB.out 1 (.int .i64 x.1.parent) rfl; have f2 := cells_at HCB.out 2 (.float .f64 x.1.share) rfl; have f3 := cells_at HCB.out 3 (.int .i64 x.1.prio) rfl; have f4 := cells_at HCB.out 4 (.int .i64 x.1.quantum) rfl; have f5 := cells_at HCB.out 5 (.int .i64 x.1.limit) rfl; have f6 := cells_at HCB.out 6 (.int .i64 x.1.weight) rfl; have f7 := cells_at HCB.out 7 (.int .i64 x.1.minIdle) rfl; have f8 := cells_at HCB.out 8 (.int .i64 x.1.maxIdle) rfl; have f9 := cells_at HCB.out 9 (.bool x.1.bounded) rfl; have f10 := cells_at HCB.out 10 (.bool x.1.isolated) rfl
    have hMu := Lib.hid (HM.out.below hBc HM.out.lt)
    have HQT := Lib.hid (fun (u' : World) (hu : Below u.heap.size u u') => qtime_c (.pointer (some ⟨q, 0, none⟩)) l t x.1.id size hwf u' (.inr ⟨q, rfl, ((hQW.out.below (hBc.mono (by omega))).below (hu.mono (by omega))).up (by have := hu.size; omega)⟩))
    rw [← HTM.out] at HQT
    have HSEu := Lib.hid (HSE.out tm)
    unfold Cls.agg S3.agg at HSEu
    clear kk hcb hBc hzc hcbd HB3 hs3 HC s0 HSE
    obtain ⟨sx, hsx⟩ : ∃ sx, sx = (stp x.1.id).getD S3.nil := ⟨_, rfl⟩
    rw [← hsx] at HSEu
    have hlk : ∀ w', (∃ z, w' = Lx.kept (fun y => y = w.heap.size ∨ y = w.heap.size + 1 ∨ y = w.heap.size + 2 ∨ y = g ∨ y = h ∨ y = S ∨ y = cb) u.drew z) → (Instr.lookup 120 (.map (some h)) (.int .i64 x.1.id) false).run Tryz.prog w' = .ok sx.agg w' := fun w' hw' => by
      obtain ⟨z, rfl⟩ := hw'
      have h1 := hMu.out.block (w' := Lx.kept (fun y => y = w.heap.size ∨ y = w.heap.size + 1 ∨ y = w.heap.size + 2 ∨ y = g ∨ y = h ∨ y = S ∨ y = cb) u.drew z) (Lx.heap_kept (S := fun y => y = w.heap.size ∨ y = w.heap.size + 1 ∨ y = w.heap.size + 2 ∨ y = g ∨ y = h ∨ y = S ∨ y = cb) (W := u.drew) (b := h) (.inr (.inr (.inr (.inr (.inl rfl))))))
      have h2 := h1.look s3_kind Tryz.underlying3 Tryz.underlying120 (zs3 _) hwf
      rw [hsx]; exact h2
    have HLK := Lib.hid hlk
    unfold S3.agg at HLK
    have HSX := Lib.hid hsx
    have hSS : ∀ y, (y = w.heap.size ∨ y = w.heap.size + 1 ∨ y = w.heap.size + 2 ∨ y = g ∨ y = h ∨ y = S ∨ y = cb) → y < u.heap.size := fun y hy => by rcases hy with e | e | e | e | e | e | e <;> omega
    have HSS := Lib.hid hSS
    have HD0 := Lib.hid ((Below.refl u.heap.size u).drew)
    clear hlk hsx hSS
    have HS2 : Hid ((World.drew u).cell? ⟨S, 2, none⟩ = some (.pointer (some ⟨q, 0, none⟩))) := Lib.hid s2
    refine Lx.wpIn_round_Y 22 (fun w' => ∃ z, w' = Lx.kept (fun y => y = w.heap.size ∨ y = w.heap.size + 1 ∨ y = w.heap.size + 2 ∨ y = g ∨ y = h ∨ y = S ∨ y = cb) u.drew z) [16, 19, 21] (by kernel_rfl) (by kernel_rfl) (fun ⟨_, _, h⟩ => h) (Lx.kept_of (Lx.Keeps.refl _ _)) ?_
    simp only [List.take_succ_cons, List.take_zero, List.drop_succ_cons, List.drop_zero]
    repeat (refine Lx.wpX_step (fun K hK => ?_); first | (refine Lx.opX_free (by rfl) (by rfl) (by rfl) ?_; go_big_quiet_op; refine hK _ _ ?_; clear hK K) | (refine Lx.opX_nil (by rfl) (by rfl) (by rfl) (by rfl) ?_; refine hK _ _ ?_; clear hK K; simp only [Act.put, List.setIfInBounds_toArray, List.set_cons_succ, List.set_cons_zero]))
    refine Lx.wpX_step (fun K hK => ?_)
    refine Lx.opX_look (by rfl) (by rfl) (by rfl) (by rfl) (by rfl) HLK.out ?_
    refine hK _ _ ?_
    clear hK K
    simp only [Act.put, List.setIfInBounds_toArray, List.set_cons_succ, List.set_cons_zero]
    repeat (refine Lx.wpX_step (fun K hK => ?_); first | (refine Lx.opX_free (by rfl) (by rfl) (by rfl) ?_; go_big_quiet_op; refine hK _ _ ?_; clear hK K) | (refine Lx.opX_nil (by rfl) (by rfl) (by rfl) (by rfl) ?_; refine hK _ _ ?_; clear hK K; simp only [Act.put, List.setIfInBounds_toArray, List.set_cons_succ, List.set_cons_zero]))
    refine Lx.wpX_step (fun K hK => ?_)
    refine Lx.opX_law (by rfl) (by rfl) ?_
    go_wp2_with (go_at_call 65; (with_reducible refine (setquota_c S (.pointer (some ⟨q, 0, none⟩)) _ HS2.out).mono ?_); rintro e w' ⟨rfl, rfl⟩)
    refine Lx.nq_mk (Lx.kept_of (Lx.Keeps.refl _ _)) (hK _ _ ?_)
    clear hK K
    repeat (refine Lx.wpX_step (fun K hK => ?_); first | (refine Lx.opX_free (by rfl) (by rfl) (by rfl) ?_; go_big_quiet_op; refine hK _ _ ?_; clear hK K) | (refine Lx.opX_nil (by rfl) (by rfl) (by rfl) (by rfl) ?_; refine hK _ _ ?_; clear hK K; simp only [Act.put, List.setIfInBounds_toArray, List.set_cons_succ, List.set_cons_zero]))
    refine Lx.wpX_step (fun K hK => ?_)
    refine Lx.opX_law (by rfl) (by rfl) ?_
    go_wp2_with (go_at_call 66; (with_reducible refine (HQT.out _ HD0.out).mono ?_); rintro e w5 ⟨rfl, hb5⟩; have hbk := HD0.out.trans hb5; have HB5 := Lib.hid hbk; clear hb5 hbk)
    refine Lx.nq_mk (Lx.kept_of (fun y hy => HB5.out.block y (HSS.out y hy))) (hK _ _ ?_)
    clear hK K
    repeat (refine Lx.wpX_step (fun K hK => ?_); first | (refine Lx.opX_free (by rfl) (by rfl) (by rfl) ?_; go_big_quiet_op; refine hK _ _ ?_; clear hK K) | (refine Lx.opX_nil (by rfl) (by rfl) (by rfl) (by rfl) ?_; refine hK _ _ ?_; clear hK K; simp only [Act.put, List.setIfInBounds_toArray, List.set_cons_succ, List.set_cons_zero]))
    refine Lx.wpX_step (fun K hK => ?_)
    refine Lx.opX_law (by rfl) (by rfl) ?_
    go_wp2_with (go_at_call 64; (with_reducible refine (HSEu.out _).mono ?_); rintro e w6 ⟨rfl, hb6⟩; have hbk := HB5.out.trans (hb6.mono HB5.out.size); have HB6 := Lib.hid hbk; clear hb6 hbk)
    refine Lx.nq_mk (Lx.kept_of (fun y hy => HB6.out.block y (HSS.out y hy))) (hK _ _ ?_)
    clear hK K
    refine Lx.wpX_nil ?_
    have hM6 := Lib.hid (hMu.out.below HB6.out hMu.out.lt)
    have hBW6 := HBc.out.trans (HB6.out.mono huw)
    have HBW6 := Lib.hid hBW6
    clear hBW6 x4 x6 x7 g0 g1 s2 f0 f1 f2 f3 f4 f5 f6 f7 f8 f9 f10
    go_wp2_with (first | (refine wpList_put s3_kind (by rfl) _ _ _ 120 (by rfl) 3 46 Tryz.underlying3 Tryz.underlying120 S3.nil h 64 stp _ (by rfl) hM6.out (by omega) x.1.id (sentI sx x.1 tm now) (by rfl) (by rfl) hwf ?_; intro w10 hm10 hg10; have HM10 := Lib.hid hm10; have HG10 := Lib.hid hg10; clear hm10 hg10))
    have hgW := gcomp HBW6.out HG10.out
    have hfn : (fun i => if i = x.1.id then some (sentI sx x.1 tm now) else stp i) = sentM l t size now st (pre ++ [x]) := by
      rw [sentM_push, ← HSTP.out]
      unfold stepM
      rw [HSX.out, HTM.out]
    have hin2 := fun i => sentM_in (tpb := t) (size := size) (now := now) (pre ++ [x]) st hst i
    have hm10 := HM10.out
    rw [hfn] at hm10
    have hle : (ids l).length ≤ 64 := by unfold Tp.ids; rw [List.length_map]; exact HR.out.le
    exact ⟨KeepsFrom.of_grownBy hgW (fun j e => by injection e; omega), KpU.of_grown ((Below.refl n₀ W).grown hgW (by omega) (fun y hy => by injection hy; omega)) hgW (fun cs tt _ e => by obtain ⟨es, m, e2⟩ := at_isMap HM.out; rw [e2] at e; cases e), (hm10.tight Tryz.underlying3 (ids l) hin2).more hle, ⟨hgW.os.trans HGR.out.os, hgW.tape.trans HGR.out.tape, hgW.output.trans HGR.out.output, Nat.le_trans HGR.out.size hgW.size, fun y hy hne => (hgW.block y (Nat.lt_of_lt_of_le hy HGR.out.size) hne).trans (HGR.out.block y hy hne)⟩⟩
  case done =>
    rintro D ys W hD rfl ⟨hM, hgr⟩ hK
    have hb := belowK_b (w := W0) (Nat.le_refl _) W D _ (.deferred none) hD hK rfl rfl
    have HGH := Lib.hid (ghb HBW0.out hgr hb)
    have HMH := Lib.hid (hM.below hb (by omega))
    have HCG := Lib.hid ((hb.block g (by omega)).trans ((hgr.block g (by omega) (fun e => hgh (by injection e))).trans ((HBW0.out.block g hgl).trans HG.out.cell)))
    clear hb hM hgr
    gi_wp2
    refine ⟨by simp, .inl ⟨_, _, rfl, run_takeDeferred hK, ?_⟩⟩
    exact ⟨_, results_tmp rfl _ _ _, rfl, ⟨HCG.out, HMH.out⟩, HGH.out⟩
  case stop =>
    rintro D c pre W hD hpre hF hK
    exact hF.elim
end Go.Proofs.YtpchhfhmopmagaaGreat.Ga

/- The document's example of gauges; gauge.Over. -/
namespace Go.Proofs.YtpchhfhmopmagaaGreat.Ga
open Go.RowKit Go.Maps Go.Proofs.YtpchhfhmopmagaaGreat.Wd Go.Proofs.YtpchhfhmopmagaaGreat.Li Go.Proofs.YtpchhfhmopmagaaGreat.Mp Go.Proofs.YtpchhfhmopmagaaGreat.Tr Go.Proofs.YtpchhfhmopmagaaGreat.Tp Go.Proofs.YtpchhfhmopmagaaGreat.Cl Go.Proofs.YtpchhfhmopmagaaGreat.So Go.Proofs.YtpchhfhmopmagaaGreat.Fi Go.Proofs.YtpchhfhmopmagaaGreat.Sw Go.Proofs.YtpchhfhmopmagaaGreat.Qu Go.Proofs.YtpchhfhmopmagaaGreat.Cf Go.Proofs.YtpchhfhmopmagaaGreat.Id Go.Proofs.YtpchhfhmopmagaaGreat.Pa Go.Proofs.YtpchhfhmopmagaaGreat.Sr
attribute [local go_sem] run_store_float

theorem gsent_c (t r d : Int) (l : List Cls) (fs : List F) (R : Tp.Tree l) (hs : ∀ c ∈ l, c.share < 18446744073709551616) (g h S n₀ : Nat) (st : Int → Option S3) (leaf size now : Int) (hlw : (Lit.int .i64 leaf).wf = true) (hlf : leafB l leaf = true) (w : World)
    (hst : ∀ i, (st i).isSome = true → i ∈ ids l) (hn0 : n₀ ≤ w.heap.size) (hgn : n₀ ≤ g) (hhn : n₀ ≤ h) (hgh : g ≠ h) (hS : SetAt w n₀ S t r d l fs) (hG : GaugeAt w g h S st) :
    Calls Tryz.prog 22 #[.pointer (some ⟨g, 0, none⟩), .int .i64 leaf, .int .i64 size, .int .i64 now] w (SentOk l t size now leaf st g h S w) :=
  callsIn_wide.1 (gsent_in 9 (by omega) t r d l fs R hs g h S n₀ st leaf size now hlw hlf w hst hn0 hgn hhn hgh hS hG)
set_option maxRecDepth 20000 in
set_option maxHeartbeats 1000000 in
theorem gover_c (g h n : Nat) (S : Value) (st : Int → Option S3) (s : S3) (id now : Int) (hid : (Lit.int .i64 id).wf = true) (hsi : st id = some s) (w : World) (hg : w.heap[g]? = some (.cells #[S, .map (some h)] 122 (0, 0))) (hm : StM w h n st) :
    Calls Tryz.prog 40 #[.pointer (some ⟨g, 0, none⟩), .int .i64 id, .int .i64 now] w fun e w' => e = .returned (.bool (decide (now < s.u))) ∧ Below w.heap.size w w' := by
  have HS := Lib.hid (state_c g h n S st id hid w hg hm)
  unfold StateOk at HS
  rw [hsi] at HS
  simp only [Option.getD_some, Option.isSome_some] at HS
  unfold S3.agg at HS
  have HO := Lib.hid (fun u => over_c s now u)
  unfold S3.agg at HO
  clear hg hm
  go_enter Tryz.func40, Tryz.ntmps40
  go_upto_region 2 with (go_at_call 24; (with_reducible refine (HS.out).mono ?_); rintro e w1 ⟨rfl, hb1⟩; have HB1 := Lib.hid hb1; clear hb1)
  have hh := heap_alloc_new w1 (.cells #[.int .i64 s.l, .int .i64 s.a, .int .i64 s.u] 46)
  have hb := HB1.out.alloc HB1.out.size (.cells #[.int .i64 s.l, .int .i64 s.a, .int .i64 s.u] 46)
  generalize World.alloc w1 _ = u at *
  have f0 := cells_at hh 0 (.int .i64 s.l) rfl; have f1 := cells_at hh 1 (.int .i64 s.a) rfl; have f2 := cells_at hh 2 (.int .i64 s.u) rfl
  have HB2 := Lib.hid hb
  clear hh hb
  go_wp2_with (go_at_call 88; (with_reducible refine (HO.out _).mono ?_); rintro e w' ⟨rfl, hb⟩; have HB3 := Lib.hid (HB2.out.trans (hb.mono HB2.out.size)); clear hb)
  go_ret
  exact ⟨rfl, HB3.out⟩
def exu : Cls := ⟨1, 0, 4607182418800017408, 0, 1, 1, 1, -100, 0, false, false⟩
theorem right_exu : rightS exu = 0 := by
  unfold rightS exu fairS
  simp [units_one]
theorem exu_scan : scan [exu] 1 = 0 := by
  have e0 : errAt [exu] 0 = 0 := by rw [errAt_is (c := exu) rfl right_exu, if_pos (by decide +kernel)]
  rw [scan_succ, e0]
  rfl
theorem exu_check : checkS [exu] = 0 := by rw [check_is (by decide) (by decide)]; exact exu_scan
theorem exu_rootS : rootS [exu] = 1 := by decide +kernel
theorem exu_root : Tp.Root [exu] (rootS [exu]) := by
  rw [exu_rootS]
  refine ⟨⟨exu, by simp, rfl, rfl⟩, fun c hc h0 => ?_, fun c hc h0 => ?_⟩
  · simp only [List.mem_cons, List.not_mem_nil, or_false] at hc
    rw [hc]; rfl
  · simp only [List.mem_cons, List.not_mem_nil, or_false] at hc
    rw [hc] at h0; simp [exu] at h0
theorem exu_desc : desc [exu] 64 (rootS [exu]) = [1] := by rw [exu_rootS]; decide +kernel
theorem exu_level : level [exu] 1 = 1 := by decide +kernel
theorem exu_chk : chk [exu] = 0 := by
  refine chk_fine exu_check exu_root (fun i hi => ?_) (by rw [exu_rootS, exu_level]; decide)
  rw [exu_desc]
  exact hi
theorem exu_tree : Tp.Tree [exu] := chk_tree exu_chk
theorem exu_u1 : uAt [exu] 1 = 1048576 := by
  rw [uAt_some (c := exu) rfl]; unfold uOf exu; rw [units_one]
theorem exu_kids : kids [exu] 1 = [] := by decide +kernel
theorem exu_quota : quotaB [exu] = true := by
  unfold quotaB
  have : ids [exu] = [1] := rfl
  rw [this]
  simp [spareS, exu_kids]
theorem exu_leaf : leafB [exu] 1 = true := by unfold leafB; rw [exu_kids]; rfl
theorem exu_conf : chkC 1 0 1 [exu] [] = 0 := by
  rw [chk_rest (by omega) (by omega) exu_chk exu_quota]
  rw [if_neg (by decide), if_neg (by decide), exu_leaf]; rfl
theorem exu_way : way [exu] 1 = [⟨exu, rfl⟩] := by
  rw [way_some (.inr exu_tree) (c := exu) rfl rfl]
  rw [way_none rfl]
theorem exu_time : exactS 1 1048576 8 = 8 := by decide +kernel
theorem exu_sent : sentI ⟨0, 0, 0⟩ exu 8 0 = ⟨0, -4, 12⟩ := by decide +kernel
theorem exu_st0 : st0 [exu] 0 1 = some ⟨0, 0, 0⟩ := by decide +kernel
theorem exu_share : ∀ x ∈ [exu], x.share < 18446744073709551616 := fun x hx => by simp at hx; rw [hx]; decide
theorem exu_after : sentM [exu] 1 8 0 (st0 [exu] 0) (way [exu] 1) 1 = some ⟨0, -4, 12⟩ := by
  rw [exu_way]
  unfold sentM stepM
  simp only [List.foldl_cons, List.foldl_nil]
  rw [if_pos (show (1 : Int) = exu.id from rfl)]
  show some (sentI ((st0 [exu] 0 1).getD S3.nil) exu (exactS 1 (uAt [exu] 1 : Int) 8) 0) = _
  rw [exu_st0, exu_u1]
  show some (sentI ⟨0, 0, 0⟩ exu (exactS 1 1048576 8 : Int) 0) = _
  rw [exu_time]
  exact congrArg some exu_sent
theorem st0_in (l : List Cls) (now i : Int) (h : (st0 l now i).isSome = true) : i ∈ ids l := by
  unfold st0 at h
  cases ha : at? l i with
  | none => rw [ha] at h; cases h
  | some c => have := at_mem ha; rw [← this.2]; exact List.mem_map.2 ⟨c, this.1, rfl⟩
end Go.Proofs.YtpchhfhmopmagaaGreat.Ga

/- The law GaugeUnder. -/
namespace Go.Proofs.YtpchhfhmopmagaaGreat.Ga
open Go.RowKit Go.Maps Go.Proofs.YtpchhfhmopmagaaGreat.Wd Go.Proofs.YtpchhfhmopmagaaGreat.Li Go.Proofs.YtpchhfhmopmagaaGreat.Mp Go.Proofs.YtpchhfhmopmagaaGreat.Tr Go.Proofs.YtpchhfhmopmagaaGreat.Tp Go.Proofs.YtpchhfhmopmagaaGreat.Cl Go.Proofs.YtpchhfhmopmagaaGreat.So Go.Proofs.YtpchhfhmopmagaaGreat.Fi Go.Proofs.YtpchhfhmopmagaaGreat.Sw Go.Proofs.YtpchhfhmopmagaaGreat.Qu Go.Proofs.YtpchhfhmopmagaaGreat.Cf Go.Proofs.YtpchhfhmopmagaaGreat.Id Go.Proofs.YtpchhfhmopmagaaGreat.Pa Go.Proofs.YtpchhfhmopmagaaGreat.Sr
attribute [local go_sem] run_store_float Lx.opX Rel.oneOk
attribute [local irreducible] Lx.wpX

theorem below_of_gr {A B : World} {h n : Nat} (hg : A.grownBy B (some h)) (hn : n ≤ A.heap.size) (hh : n ≤ h) : Below n A B := (Below.refl n A).grown hg hn (fun q hq => by injection hq; omega)
set_option maxRecDepth 20000 in
set_option maxHeartbeats 2000000 in
theorem lives26 (w : World) : Calls Tryz.prog 17 #[] w fun e w' => e = .returned (.bool true) ∧ Below w.heap.size w w' := by
  have h0 : ((w.alloc (.cells #[.int .i64 1, .int .i64 0, .float .f64 4607182418800017408, .int .i64 0, .int .i64 1, .int .i64 1, .int .i64 1, .int .i64 (-100), .int .i64 0, .bool false, .bool false] 84)).alloc (.cells #[.int .i64 1, .int .i64 0, .int .i64 1, .slice (some ⟨w.heap.size, 0, none⟩) 1 1, .slice none 0 0] 25)).heap[w.heap.size]? = some (.cells #[.int .i64 1, .int .i64 0, .float .f64 4607182418800017408, .int .i64 0, .int .i64 1, .int .i64 1, .int .i64 1, .int .i64 (-100), .int .i64 0, .bool false, .bool false] 84 (0, 0)) := (Below.heap_alloc _ _ _ (by simp)).trans (heap_alloc_new _ _)
  have h1 : ((w.alloc (.cells #[.int .i64 1, .int .i64 0, .float .f64 4607182418800017408, .int .i64 0, .int .i64 1, .int .i64 1, .int .i64 1, .int .i64 (-100), .int .i64 0, .bool false, .bool false] 84)).alloc (.cells #[.int .i64 1, .int .i64 0, .int .i64 1, .slice (some ⟨w.heap.size, 0, none⟩) 1 1, .slice none 0 0] 25)).heap[w.heap.size + 1]? = some (.cells #[.int .i64 1, .int .i64 0, .int .i64 1, .slice (some ⟨w.heap.size, 0, none⟩) 1 1, .slice none 0 0] 25 (0, 0)) := by
    have := heap_alloc_new (w.alloc (.cells #[.int .i64 1, .int .i64 0, .float .f64 4607182418800017408, .int .i64 0, .int .i64 1, .int .i64 1, .int .i64 1, .int .i64 (-100), .int .i64 0, .bool false, .bool false] 84)) (.cells #[.int .i64 1, .int .i64 0, .int .i64 1, .slice (some ⟨w.heap.size, 0, none⟩) 1 1, .slice none 0 0] 25)
    simpa using this
  have hb0 : Below w.heap.size w ((w.alloc (.cells #[.int .i64 1, .int .i64 0, .float .f64 4607182418800017408, .int .i64 0, .int .i64 1, .int .i64 1, .int .i64 1, .int .i64 (-100), .int .i64 0, .bool false, .bool false] 84)).alloc (.cells #[.int .i64 1, .int .i64 0, .int .i64 1, .slice (some ⟨w.heap.size, 0, none⟩) 1 1, .slice none 0 0] 25)) := ((Below.refl _ w).alloc (Nat.le_refl _) _).alloc (by simp) _
  have hz0 : ((w.alloc (.cells #[.int .i64 1, .int .i64 0, .float .f64 4607182418800017408, .int .i64 0, .int .i64 1, .int .i64 1, .int .i64 1, .int .i64 (-100), .int .i64 0, .bool false, .bool false] 84)).alloc (.cells #[.int .i64 1, .int .i64 0, .int .i64 1, .slice (some ⟨w.heap.size, 0, none⟩) 1 1, .slice none 0 0] 25)).heap.size = w.heap.size + 2 := by simp
  have H0 := Lib.hid h0; have H1 := Lib.hid h1; have HB0 := Lib.hid hb0; have HZ0 := Lib.hid hz0
  clear h0 h1 hb0 hz0
  go_enter Tryz.func17, Tryz.ntmps17
  go_upto_region 2 with fail
  generalize World.alloc (World.alloc w _) _ = U at *
  have hz := HZ0.out
  have c0 := cells_at H1.out 0 (.int .i64 1) rfl; have c1 := cells_at H1.out 1 (.int .i64 0) rfl; have c2 := cells_at H1.out 2 (.int .i64 1) rfl; have c3 := cells_at H1.out 3 (.slice (some ⟨w.heap.size, 0, none⟩) 1 1) rfl; have c4 := cells_at H1.out 4 (.slice none 0 0) rfl
  have hHo : Holds U.heap.size U (.slice (some ⟨w.heap.size, 0, none⟩) 1 1) [exu] := .inr ⟨w.heap.size, 0, 1, rfl, by omega, fun j x hx i v hv => by
    have hj : j = 0 := by have := (List.getElem?_eq_some_iff.1 hx).1; simp at this; exact this
    subst hj
    have hx2 : exu = x := by simpa using hx
    subst hx2
    have h := cells_at H0.out i v (show (exu.cells.toArray)[i]? = some v from by rw [List.getElem?_toArray]; exact hv)
    simpa using h⟩
  have HCO := Lib.hid (compile_c 1 0 1 (by decide) (some ⟨w.heap.size, 0, none⟩) 1 1 none 0 0 [exu] [] exu_share (by decide) (by decide) (Nat.le_refl _) U hHo (.inl ⟨rfl, rfl⟩))
  unfold CompCOk cfV at HCO
  clear hHo
  go_upto_region 3 with (go_at_call 18; (with_reducible refine (HCO.out).mono ?_); rintro e w5 (⟨hn, _⟩ | ⟨_, S, rfl, hS, hle, hb5⟩); exact absurd exu_conf hn; have HS5 := Lib.hid hS; have HB5 := Lib.hid hb5; clear hS hle hb5)
  have hw5 := HB5.out.size
  have HNW := Lib.hid (newg_c 1 0 1 [exu] [] exu_tree exu_share S 0 w5 HS5.out)
  unfold NewgOk at HNW
  clear c0 c1 c2 c3 c4 H0 H1 HZ0 HCO
  go_upto_region 4 with (go_at_call 21; (with_reducible refine (HNW.out).mono ?_); rintro e w6 ⟨g, h, rfl, hG, hg1, hh1, hgh, hb6⟩; have HG6 := Lib.hid hG; have HB6 := Lib.hid hb6; clear hG hb6)
  have HSN := Lib.hid (gsent_c 1 0 1 [exu] [] exu_tree exu_share g h S w5.heap.size (st0 [exu] 0) 1 8 0 (by decide) exu_leaf w6 (st0_in [exu] 0) HB6.out.size hg1 hh1 hgh (HS5.out.below HB6.out) HG6.out)
  unfold SentOk at HSN
  have HOV := Lib.hid (fun (now : Int) (u : World) (hu : GaugeAt u g h S (sentM [exu] 1 8 0 (st0 [exu] 0) (way [exu] 1))) => gover_c g h 64 (.pointer (some ⟨S, 0, none⟩)) _ _ 1 now (by decide) exu_after u hu.cell hu.map)
  have hB6 : Below w.heap.size w w6 := HB0.out.trans ((HB5.out.trans (HB6.out.mono HB5.out.size)).mono HB0.out.size)
  have HBW6 := Lib.hid hB6
  clear hB6 HNW
  go_wp2_with (first
    | (go_at_call 22; (with_reducible refine (HSN.out).mono ?_); rintro e w7 ⟨rfl, hG7, hg7⟩; have HG7 := Lib.hid hG7; have HR7 := Lib.hid hg7; clear hG7 hg7)
    | (go_at_call 40; (with_reducible refine (HOV.out 11 _ HG7.out).mono ?_); rintro e w8 ⟨rfl, hb8⟩; have HB8 := Lib.hid hb8; have HG8 : Hid (GaugeAt w8 g h S (sentM [exu] 1 8 0 (st0 [exu] 0) (way [exu] 1))) := Lib.hid ⟨(hb8.block g (Array.getElem?_eq_some_iff.1 HG7.out.cell).1).trans HG7.out.cell, HG7.out.map.below hb8 HG7.out.map.lt⟩; clear hb8)
    | (go_at_call 40; (with_reducible refine (HOV.out 12 _ HG8.out).mono ?_); rintro e w9 ⟨rfl, hb9⟩; have HB9 := Lib.hid hb9; clear hb9))
  go_ret
  refine ⟨rfl, ?_⟩
  have h67 : Below w.heap.size w6 w7 := below_of_gr HR7.out HBW6.out.size (by have := HB0.out.size; omega)
  exact HBW6.out.trans (h67.trans ((HB8.out.trans (HB9.out.mono HB8.out.size)).mono (Nat.le_trans HBW6.out.size HR7.out.size)))
end Go.Proofs.YtpchhfhmopmagaaGreat.Ga

/- The law GaugeUnder. -/
namespace Go.Proofs.YtpchhfhmopmagaaGreat.Ga
open Go.RowKit Go.Maps Go.Proofs.YtpchhfhmopmagaaGreat.Wd Go.Proofs.YtpchhfhmopmagaaGreat.Li Go.Proofs.YtpchhfhmopmagaaGreat.Mp Go.Proofs.YtpchhfhmopmagaaGreat.Tr Go.Proofs.YtpchhfhmopmagaaGreat.Tp Go.Proofs.YtpchhfhmopmagaaGreat.Cl Go.Proofs.YtpchhfhmopmagaaGreat.So Go.Proofs.YtpchhfhmopmagaaGreat.Fi Go.Proofs.YtpchhfhmopmagaaGreat.Sw Go.Proofs.YtpchhfhmopmagaaGreat.Qu Go.Proofs.YtpchhfhmopmagaaGreat.Cf Go.Proofs.YtpchhfhmopmagaaGreat.Id Go.Proofs.YtpchhfhmopmagaaGreat.Pa Go.Proofs.YtpchhfhmopmagaaGreat.Sr
attribute [local go_sem] run_store_float Lx.opX Rel.oneOk
attribute [local irreducible] Lx.wpX

theorem sentM_at {l : List Cls} {tpb size now : Int} {id : Int} : ∀ (pre : List (Ci l)) (st : Int → Option S3), (id ∈ pre.map (fun x => x.1.id) → ∃ s, sentM l tpb size now st pre id = some s ∧ s.l = hold now) ∧ (id ∉ pre.map (fun x => x.1.id) → sentM l tpb size now st pre id = st id)
  | [], st => ⟨fun h => by simp at h, fun _ => rfl⟩
  | x :: xs, st => by
    obtain ⟨h1, h2⟩ := sentM_at xs (stepM l tpb size now st x)
    have e : sentM l tpb size now st (x :: xs) = sentM l tpb size now (stepM l tpb size now st x) xs := rfl
    rw [e]
    refine ⟨fun h => ?_, fun h => ?_⟩
    · by_cases hx : id ∈ xs.map (fun x => x.1.id)
      · exact h1 hx
      · rw [h2 hx]
        have hi : id = x.1.id := by
          rw [List.map_cons, List.mem_cons] at h
          exact h.resolve_right hx
        unfold stepM
        rw [if_pos hi]
        exact ⟨_, rfl, rfl⟩
    · rw [List.map_cons, List.mem_cons, not_or] at h
      rw [h2 h.2]
      unfold stepM
      rw [if_neg h.1]
theorem chkC_tree {t r d : Int} {l : List Cls} {fs : List F} (h : chkC t r d l fs = 0) : chk l = 0 := by
  unfold chkC at h
  split at h
  · cases h
  · split at h
    · cases h
    · split at h
      · rename_i hn; exact absurd h hn
      · rename_i hn; simpa using hn
theorem leaf_is {l : List Cls} {y : Int} (h : y ∈ leavesS l) : leafB l y = true := by
  unfold leavesS at h
  obtain ⟨h1, h2⟩ := List.mem_filter.1 h
  have h3 := (sort_ids y).1 h1
  unfold leafB
  cases ha : at? l y with
  | none => exact absurd h3 (at_none.1 ha)
  | some c => rw [h2]; rfl
set_option maxRecDepth 20000 in
set_option maxHeartbeats 1000000 in
theorem few_c (t r d : Int) (A : Option Addr) (na ca : Nat) (B : Option Addr) (mb cb : Nat) (w : World) : Calls Tryz.prog 10 #[cfV t r d (.slice A na ca) (.slice B mb cb)] w fun e w' => e = .returned (.bool (decide (na ≤ 70) && decide (mb ≤ 70))) ∧ Below w.heap.size w w' := by
  have HB := Lib.hid ((Below.refl w.heap.size w).alloc (Nat.le_refl _) (.cells #[.int .i64 t, .int .i64 r, .int .i64 d, .slice A na ca, .slice B mb cb] 25))
  by_cases h1 : na ≤ 70
  · have h1z : (na : Int) ≤ 70 := by omega
    have d1 : decide ((na : Int) ≤ 70) = true := decide_eq_true h1z
    by_cases h2 : mb ≤ 70
    · have d2 : decide ((mb : Int) ≤ 70) = true := decide_eq_true (by omega)
      have HR := Lib.hid (show (decide (na ≤ 70) && decide (mb ≤ 70)) = true by simp [h1, h2])
      clear h1 h2 h1z
      go_enter Tryz.func10, Tryz.ntmps10
      go_wp2
      go_ret
      exact ⟨by rw [HR.out]; (try simp [d2]); (try rfl), HB.out⟩
    · have d2 : decide ((mb : Int) ≤ 70) = false := decide_eq_false (by omega)
      have HR := Lib.hid (show (decide (na ≤ 70) && decide (mb ≤ 70)) = false by simp [h2])
      clear h1 h2 h1z
      go_enter Tryz.func10, Tryz.ntmps10
      go_wp2
      go_ret
      exact ⟨by rw [HR.out]; (try simp [d2]); (try rfl), HB.out⟩
  · have h1z : ¬ (na : Int) ≤ 70 := by omega
    have d1 : decide ((na : Int) ≤ 70) = false := decide_eq_false h1z
    have HR := Lib.hid (show (decide (na ≤ 70) && decide (mb ≤ 70)) = false by simp [h1])
    clear h1
    go_enter Tryz.func10, Tryz.ntmps10
    go_wp2
    go_ret
    exact ⟨by rw [HR.out]; (try simp [d1]); (try rfl), HB.out⟩
end Go.Proofs.YtpchhfhmopmagaaGreat.Ga
