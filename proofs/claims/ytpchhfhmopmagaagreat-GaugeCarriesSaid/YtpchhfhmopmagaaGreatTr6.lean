/- Compile. -/
import Derived.Test.YtpchhfhmopmagaaGreatTr5
set_option linter.unusedVariables false
set_option linter.unusedSimpArgs false
namespace Go.Proofs.YtpchhfhmopmagaaGreat.Tr
open Go.RowKit Go.Maps Go.Proofs.YtpchhfhmopmagaaGreat.Wd Go.Proofs.YtpchhfhmopmagaaGreat.Li Go.Proofs.YtpchhfhmopmagaaGreat.Mp Go.Proofs.YtpchhfhmopmagaaGreat.Tp Go.Proofs.YtpchhfhmopmagaaGreat.Cl Go.Proofs.YtpchhfhmopmagaaGreat.So
attribute [local go_sem] run_store_float Lx.opX Rel.oneOk
attribute [local irreducible] Lx.wpX

/-- a tree lies at T, all of it below B -/
def TreeAt (w : World) (B T : Nat) (l : List Cls) : Prop := ∃ (h : Nat) (A : Option Addr) (c : Nat) (kf : Int → Option Sv), T = h + 3 ∧ T < B ∧
  w.heap[h + 3]? = some (.cells #[.slice A l.length c, .map (some h), .map (some (h + 1)), .map (some (h + 2)), .int .i64 (rootS l)] 135 (0, 0)) ∧
  Sl w B 1 A l.length (St.I (ids (sortC l))) ∧ Cla w h 64 (at? l) ∧ At Sv.val Sv.enc Sv.nil Tryz.prog 3 w (h + 1) 64 kf ∧
  (∀ id, ∃ A' c', ((kf id).getD Sv.nil).val = .slice A' (kids l id).length c' ∧ Sl w B 1 A' (kids l id).length (St.I (kids l id))) ∧
  Lev w (h + 2) 64 (notes l (fun _ => none) (ids l))
theorem TreeAt.below {w w' : World} {B T : Nat} {l : List Cls} (hb : Below B w w') (t : TreeAt w B T l) : TreeAt w' B T l := by
  obtain ⟨h, A, c, kf, rfl, hT, h1, h2, h3, h4, h5, h6⟩ := t
  exact ⟨h, A, c, kf, rfl, hT, (hb.block _ hT).trans h1, h2.below hb, h3.below hb (by omega), h4.below hb (by omega), fun id => by obtain ⟨A', c', e, hs⟩ := h5 id; exact ⟨A', c', e, hs.below hb⟩, h6.below hb (by omega)⟩
theorem TreeAt.up {w : World} {B B' T : Nat} {l : List Cls} (hB : B ≤ B') (t : TreeAt w B T l) : TreeAt w B' T l := by
  obtain ⟨h, A, c, kf, rfl, hT, h1, h2, h3, h4, h5, h6⟩ := t
  exact ⟨h, A, c, kf, rfl, by omega, h1, h2.more hB, h3, h4, fun id => by obtain ⟨A', c', e, hs⟩ := h5 id; exact ⟨A', c', e, hs.more hB⟩, h6⟩
def CompOk (l : List Cls) (w : World) (e : Ending) (w' : World) : Prop :=
  (chk l ≠ 0 ∧ e = .returned (.tuple #[.pointer none, .int .i64 (chk l)]) ∧ Below w.heap.size w w') ∨
  (chk l = 0 ∧ ∃ T, e = .returned (.tuple #[.pointer (some ⟨T, 0, none⟩), .int .i64 0]) ∧ TreeAt w' w'.heap.size T l ∧ w.heap.size ≤ T ∧ Below w.heap.size w w')

theorem World.heap_size_alloc' (w : World) (o : Obj) : (w.alloc o).heap.size = w.heap.size + 1 := by simp
theorem four_alloc (U : World) (o0 o1 o2 o3 : Obj) : ((((U.alloc o0).alloc o1).alloc o2).alloc o3).heap[U.heap.size]? = (U.alloc o0).heap[U.heap.size]? ∧ ((((U.alloc o0).alloc o1).alloc o2).alloc o3).heap[U.heap.size + 1]? = ((U.alloc o0).alloc o1).heap[(U.alloc o0).heap.size]? ∧ ((((U.alloc o0).alloc o1).alloc o2).alloc o3).heap[U.heap.size + 2]? = (((U.alloc o0).alloc o1).alloc o2).heap[((U.alloc o0).alloc o1).heap.size]? ∧ ((((U.alloc o0).alloc o1).alloc o2).alloc o3).heap[U.heap.size + 3]? = ((((U.alloc o0).alloc o1).alloc o2).alloc o3).heap[(((U.alloc o0).alloc o1).alloc o2).heap.size]? := by
  refine ⟨?_, ?_, ?_, by simp⟩
  · exact (Below.heap_alloc _ _ _ (by simp only [World.heap_size_alloc']; omega)).trans ((Below.heap_alloc _ _ _ (by simp only [World.heap_size_alloc']; omega)).trans (Below.heap_alloc _ _ _ (by simp only [World.heap_size_alloc']; omega)))
  · refine (Below.heap_alloc _ _ _ (by simp only [World.heap_size_alloc']; omega)).trans ((Below.heap_alloc _ _ _ (by simp only [World.heap_size_alloc']; omega)).trans ?_); simp
  · refine (Below.heap_alloc _ _ _ (by simp)).trans ?_; simp
theorem bld_start {w3 : World} {h base : Nat} {l : List Cls} {r : Int} (h0 : w3.heap[h]? = some (.map #[] 0)) (h1 : w3.heap[h + 1]? = some (.map #[] 0)) (h2 : w3.heap[h + 2]? = some (.map #[] 0))
    (h3 : w3.heap[h + 3]? = some (.cells #[.slice none 0 0, .map (some h), .map (some (h + 1)), .map (some (h + 2)), .int .i64 r] 135 (0, 0))) (hb : h + 4 ≤ base) : Bld w3 h base l r 0 0 0 Sv.nil (fun _ => none) :=
  ⟨rfl, h3, World.ownsRow_nil .., At.made_block h0, ⟨At.made_block h1, fun id => World.ownsRow_nil .., by omega⟩, fun p q _ => .inl rfl, fun p => .inl rfl, At.made_block h2, hb⟩
/-- the sorted classes lie in none of the tree's blocks -/
theorem apart_of {w3 : World} {h b off : Nat} {x : Cls} {r : Int} {s : Value} (h0 : w3.heap[h]? = some (.map #[] 0)) (h1 : w3.heap[h + 1]? = some (.map #[] 0)) (h2 : w3.heap[h + 2]? = some (.map #[] 0))
    (h3 : w3.heap[h + 3]? = some (.cells #[s, .map (some h), .map (some (h + 1)), .map (some (h + 2)), .int .i64 r] 135 (0, 0)))
    (hc : ∀ (i : Nat) (v : Value), x.cells[i]? = some v → w3.cell? ⟨b, off + i, none⟩ = some v) : b ≠ h ∧ b ≠ h + 1 ∧ b ≠ h + 2 ∧ b ≠ h + 3 := by
  have c := hc 10 _ rfl
  refine ⟨?_, ?_, ?_, ?_⟩ <;> rintro rfl
  · simp [World.cell?, h0] at c
  · simp [World.cell?, h1] at c
  · simp [World.cell?, h2] at c
  · simp [World.cell?, h3] at c
theorem chk_scan {l : List Cls} (h : checkS l ≠ 0) : chk l = checkS l := by
  unfold checkS chk at *
  split
  · rfl
  · rename_i h1
    rw [if_neg h1] at h
    split
    · rfl
    · rename_i h2
      rw [if_neg h2] at h
      rw [if_pos h]
theorem check_zero {l : List Cls} (h : checkS l = 0) : 0 < l.length ∧ l.length ≤ 64 ∧ scan l l.length = 0 := by
  unfold checkS at h
  split at h
  · cases h
  · split at h
    · cases h
    · exact ⟨by omega, by omega, h⟩
theorem chk_par {l : List Cls} (h : checkS l = 0) (hR : ¬ Tp.Root l (rootS l)) : chk l = 10 := by
  obtain ⟨h1, h2, h3⟩ := check_zero h
  unfold chk
  rw [if_neg (by omega), if_neg (by omega), if_neg (by simpa using h3), if_pos hR]
theorem chk_ring {l : List Cls} (h : checkS l = 0) (hR : Tp.Root l (rootS l)) (hr : ¬ ∀ i ∈ ids l, i ∈ desc l 64 (rootS l)) : chk l = 11 := by
  obtain ⟨h1, h2, h3⟩ := check_zero h
  unfold chk
  rw [if_neg (by omega), if_neg (by omega), if_neg (by simpa using h3), if_neg (by simpa using hR), if_pos hr]
theorem chk_deep {l : List Cls} (h : checkS l = 0) (hR : Tp.Root l (rootS l)) (hr : ∀ i ∈ ids l, i ∈ desc l 64 (rootS l)) (hd : 8 < level l (rootS l)) : chk l = 12 := by
  obtain ⟨h1, h2, h3⟩ := check_zero h
  unfold chk
  rw [if_neg (by omega), if_neg (by omega), if_neg (by simpa using h3), if_neg (by simpa using hR), if_neg (by simpa using hr), if_pos hd]
theorem chk_fine {l : List Cls} (h : checkS l = 0) (hR : Tp.Root l (rootS l)) (hr : ∀ i ∈ ids l, i ∈ desc l 64 (rootS l)) (hd : ¬ 8 < level l (rootS l)) : chk l = 0 := by
  obtain ⟨h1, h2, h3⟩ := check_zero h
  unfold chk
  rw [if_neg (by omega), if_neg (by omega), if_neg (by simpa using h3), if_neg (by simpa using hR), if_neg (by simpa using hr), if_neg hd]

set_option maxRecDepth 20000 in
set_option maxHeartbeats 8000000 in
theorem compile_c (A : Option Addr) (n c : Nat) (l : List Cls) (hs : ∀ x ∈ l, x.share < 18446744073709551616) (hlen : l.length ≤ 1048576) (hcap : n ≤ c) (w : World) (hI : Holds w.heap.size w (.slice A n c) l) :
    Calls Tryz.prog 57 #[.slice A n c] w (CompOk l w) := by
  obtain ⟨rfl, _⟩ := holds_parts hI
  have HI := Lib.hid hI
  have hmm := @run_makeMap Tryz.prog
  have hck := Lib.hid (check_c A l.length c l hs hlen hcap w hI)
  by_cases h0 : checkS l = 0
  · obtain ⟨hpos, h64, hsc⟩ := check_zero h0
    have G := good_of hsc
    have H0 := Lib.hid h0
    rw [h0] at hck
    have HG := Lib.hid G
    have hpar := Lib.hid (fun u (hu : Below w.heap.size w u) => parents_c A l.length c l HG.out hlen u (HI.out.below hu |>.up hu.size))
    clear h0 hsc G hI hs
    go_enter Tryz.func57, Tryz.ntmps57
    go_upto_region 4 with (go_at_call 127; refine (hck.out).mono ?_; rintro e w1 ⟨rfl, hb1⟩; have B1 := Lib.hid hb1; clear hb1)
    by_cases hR : Tp.Root l (rootS l)
    · have HR := Lib.hid hR
      clear hR
      go_upto_region 8 with (go_at_call 128; refine (hpar.out _ B1.out).mono ?_; rintro e w2 ⟨⟨_, rfl⟩ | ⟨hn, _⟩, hb2⟩; rotate_left; exact absurd HR.out hn; have B2 := Lib.hid (B1.out.trans (hb2.mono B1.out.size)); clear hb2)
      have e3 : w2.heap.size + 1 + 1 + 1 = w2.heap.size + 3 := rfl
      have e2 : w2.heap.size + 1 + 1 = w2.heap.size + 2 := rfl
      rw [e3, e2]
      clear e3 e2
      have hfour := four_alloc w2 (.map #[] 0) (.map #[] 0) (.map #[] 0) (.cells #[.slice none 0 0, .map (some w2.heap.size), .map (some (w2.heap.size + 1)), .map (some (w2.heap.size + 2)), .int .i64 (rootS l)] 135)
      rw [heap_alloc_new, heap_alloc_new, heap_alloc_new, heap_alloc_new] at hfour
      have hUb : Below w.heap.size w ((((w2.alloc (.map #[] 0)).alloc (.map #[] 0)).alloc (.map #[] 0)).alloc (.cells #[.slice none 0 0, .map (some w2.heap.size), .map (some (w2.heap.size + 1)), .map (some (w2.heap.size + 2)), .int .i64 (rootS l)] 135)) := by
        have := B2.out.size
        exact (((B2.out.alloc this _).alloc (by simp; omega) _).alloc (by simp; omega) _).alloc (by simp; omega) _
      have hUs : ((((w2.alloc (.map #[] 0)).alloc (.map #[] 0)).alloc (.map #[] 0)).alloc (.cells #[.slice none 0 0, .map (some w2.heap.size), .map (some (w2.heap.size + 1)), .map (some (w2.heap.size + 2)), .int .i64 (rootS l)] 135)).heap.size = w2.heap.size + 4 := by simp
      have hh2 := B2.out.size
      generalize World.alloc (World.alloc (World.alloc (World.alloc w2 _) _) _) _ = U at *
      obtain ⟨h, hh⟩ : ∃ h, h = w2.heap.size := ⟨_, rfl⟩
      rw [← hh] at hfour hUs hh2 ⊢
      clear hh B2 B1
      obtain ⟨f0, f1, f2, f3⟩ := hfour
      have F0 := Lib.hid f0; have F1 := Lib.hid f1; have F2 := Lib.hid f2; have F3 := Lib.hid f3; have HU := Lib.hid hUb; have HUs := Lib.hid hUs
      have hUw := hUb.size
      have hsort := Lib.hid (sorted_c A l.length c l hlen U (HI.out.below hUb |>.up hUw))
      clear f0 f1 f2 f3 hUb hUs
      go_wp2_with (go_at_call 102; refine (hsort.out).mono ?_; rintro e w3 ⟨v, rfl, hS, hb3⟩; obtain ⟨A3, c3, rfl⟩ := hS.form; have HS := Lib.hid hS; have B3 := Lib.hid hb3; clear hS hb3)
      have hlenS : (sortC l).length = l.length := sortC_len l
      have hbs := B3.out.size
      have hU4 : h + 4 ≤ w3.heap.size := by have := HUs.out; omega
      have keep3 : ∀ q, q < h + 4 → w3.heap[q]? = U.heap[q]? := fun q hq => B3.out.block q (by rw [HUs.out]; exact hq)
      have K0 := Lib.hid ((keep3 h (by omega)).trans F0.out); have K1 := Lib.hid ((keep3 (h + 1) (by omega)).trans F1.out); have K2 := Lib.hid ((keep3 (h + 2) (by omega)).trans F2.out); have K3 := Lib.hid ((keep3 (h + 3) (by omega)).trans F3.out)
      have W3 := Lib.hid (HU.out.trans (B3.out.mono hUw))
      have hb0 := Lib.hid (bld_start (l := l) K0.out K1.out K2.out K3.out hU4)
      have hw3 := W3.out.size
      clear keep3 F0 F1 F2 F3 HUs hsort hck hpar hbs
      have HLS := Lib.hid hlenS
      clear hlenS
      go_loopg [33] (sortC l).length (fun kx s33 wr => ∃ (k : Nat) (s : Sv) (kf : Int → Option Sv), s33 = .int .i64 k ∧ k ≤ (sortC l).length ∧ (sortC l).length - k ≤ kx ∧ Hid (Bld wr h w3.heap.size l (rootS l) k k k s kf) ∧ Hid (Below w.heap.size w wr) ∧ Hid (∀ q, q < w3.heap.size → q ≠ h → q ≠ h + 1 → q ≠ h + 2 → q ≠ h + 3 → wr.heap[q]? = w3.heap[q]?) ∧ w3.heap.size ≤ wr.heap.size)
      case atStart => exact ⟨0, Sv.nil, fun _ => none, rfl, by omega, by omega, hb0, W3, Lib.hid (fun _ _ _ _ _ _ => rfl), Nat.le_refl _⟩
      case round =>
        obtain ⟨k, s, kf, rfl, hk, hkx, HB, HW, HQ, hwr⟩ := hrel
        clear hb0
        by_cases hlt : k < (sortC l).length
        · have hltz : (k : Int) < ((sortC l).length : Int) := by omega
          obtain ⟨_, hcs⟩ := holds_parts HS.out
          obtain ⟨b, off, rfl, hb, hc⟩ := hcs (by omega)
          obtain ⟨x, hx⟩ : ∃ x, (sortC l)[k]? = some x := ⟨_, List.getElem?_eq_getElem hlt⟩
          obtain ⟨x0, hx0⟩ : ∃ x0, (sortC l)[0]? = some x0 := ⟨_, List.getElem?_eq_getElem (by omega)⟩
          obtain ⟨n0, n1, n2, n3⟩ := apart_of (off := off) K0.out K1.out K2.out K3.out (fun i v hv => by have := hc 0 x0 hx0 i v hv; simpa using this)
          have hcx : ∀ (i : Nat) (v : Value), x.cells[i]? = some v → wr.cell? ⟨b, off + k * 11 + i, none⟩ = some v := fun i v hv => by
            have := hc k x hx i v hv
            rw [← this]
            unfold World.cell?
            rw [HQ.out b hb n0 n1 n2 n3]
          have c0 : wr.cell? ⟨b, off + k * 11, none⟩ = some (.int .i64 x.id) := hcx 0 _ rfl
          have c1 := hcx 1 _ rfl; have c2 := hcx 2 _ rfl; have c3' := hcx 3 _ rfl; have c4 := hcx 4 _ rfl; have c5 := hcx 5 _ rfl; have c6 := hcx 6 _ rfl; have c7 := hcx 7 _ rfl; have c8 := hcx 8 _ rfl; have c9 := hcx 9 _ rfl; have c10 := hcx 10 _ rfl
          have HX := Lib.hid hx
          clear hcs hc hx hx0 hcx
          go_upto_region 11 with fail
          have hcb := heap_alloc_new wr (.cells #[.int .i64 x.id, .int .i64 x.parent, .float .f64 x.share, .int .i64 x.prio, .int .i64 x.quantum, .int .i64 x.limit, .int .i64 x.weight, .int .i64 x.minIdle, .int .i64 x.maxIdle, .bool x.bounded, .bool x.isolated] 84)
          have hBu := HB.out.same (w' := wr.alloc (.cells #[.int .i64 x.id, .int .i64 x.parent, .float .f64 x.share, .int .i64 x.prio, .int .i64 x.quantum, .int .i64 x.limit, .int .i64 x.weight, .int .i64 x.minIdle, .int .i64 x.maxIdle, .bool x.bounded, .bool x.isolated] 84)) (fun q hq => Below.heap_alloc _ _ _ hq)
          have hWu := HW.out.alloc HW.out.size (.cells #[.int .i64 x.id, .int .i64 x.parent, .float .f64 x.share, .int .i64 x.prio, .int .i64 x.quantum, .int .i64 x.limit, .int .i64 x.weight, .int .i64 x.minIdle, .int .i64 x.maxIdle, .bool x.bounded, .bool x.isolated] 84)
          have hus : (wr.alloc (.cells #[.int .i64 x.id, .int .i64 x.parent, .float .f64 x.share, .int .i64 x.prio, .int .i64 x.quantum, .int .i64 x.limit, .int .i64 x.weight, .int .i64 x.minIdle, .int .i64 x.maxIdle, .bool x.bounded, .bool x.isolated] 84)).heap.size = wr.heap.size + 1 := by simp
          have hQu : ∀ q, q < w3.heap.size → q ≠ h → q ≠ h + 1 → q ≠ h + 2 → q ≠ h + 3 → (wr.alloc (.cells #[.int .i64 x.id, .int .i64 x.parent, .float .f64 x.share, .int .i64 x.prio, .int .i64 x.quantum, .int .i64 x.limit, .int .i64 x.weight, .int .i64 x.minIdle, .int .i64 x.maxIdle, .bool x.bounded, .bool x.isolated] 84)).heap[q]? = w3.heap[q]? := fun q hq a1 a2 a3 a4 => (Below.heap_alloc _ _ _ (by omega)).trans (HQ.out q hq a1 a2 a3 a4)
          generalize World.alloc wr _ = u at *
          have HCB := Lib.hid hcb; have HBu := Lib.hid hBu; have HWu := Lib.hid hWu; have HQu := Lib.hid hQu; have HUS := Lib.hid hus
          have x0 := cells_at hcb 0 _ rfl
          have t0 := cells_at hBu.cell 0 _ rfl
          have hus1 : wr.heap.size < u.heap.size := by omega
          have hS : ∀ q, (q = h + 3 ∨ q = wr.heap.size) → q < u.heap.size := fun q hq => by rcases hq with e | e <;> omega
          have HS1 := Lib.hid hS
          clear hS
          have hids : (Tp.ids ((sortC l).take k)).length < 1048576 := by unfold Tp.ids; rw [List.length_map, List.length_take]; have := HLS.out; omega
          have HSG : Hid (∀ q, s.g = some q → w3.heap.size ≤ q ∧ q < wr.heap.size) := Lib.hid (fun q hq => idr_lt HB.out hq)
          have HRG : Hid (∀ p q, rowOf kf p = some q → w3.heap.size ≤ q ∧ q < wr.heap.size) := Lib.hid (fun p q hq => row_lt HB.out hq)
          clear hcb hBu hWu hQu hus HB HW HQ c0 c1 c2 c3' c4 c5 c6 c7 c8 c9 c10
          refine Lx.wp_region_X 11 (fun w' => ∃ z, w' = Lx.kept (fun q => q = h + 3 ∨ q = wr.heap.size) u.drew z) (fun i => i == 7 || i == 8) (by kernel_rfl) (by kernel_rfl) (Lx.kept_of (Lx.Keeps.refl _ _)) ?_
          simp only [List.take_succ_cons, List.take_zero, List.drop_succ_cons, List.drop_zero]
          repeat (refine Lx.wpX_step (fun K hK => ?_); first | (refine Lx.opX_free (by rfl) (by rfl) (by rfl) ?_; go_big_quiet_op; refine hK _ _ ?_; clear hK K) | (refine Lx.opX_nil (by rfl) (by rfl) (by rfl) (by rfl) ?_; refine hK _ _ ?_; clear hK K; simp only [Act.put, List.setIfInBounds_toArray, List.set_cons_succ, List.set_cons_zero]))
          refine Lx.wpX_step (fun K hK => ?_)
          refine Lx.opX_law (by rfl) (by rfl) ?_
          go_wp2_with fail
          refine Lx.nq_mk (Lx.kept_of (Lx.Keeps.alloc _ HS1.out)) (hK _ _ ?_)
          clear hK K
          refine Lx.wpX_step (fun K hK => ?_)
          refine Lx.opX_law (by rfl) (by rfl) ?_
          refine wpList_push_at (by rfl) _ _ 38 (by rfl) Tryz.underlying38 w3.heap.size x.id u.drew s.val (Tp.ids ((sortC l).take k)) (by rfl) HBu.out.idr (by rfl) hids (by simp; omega) ?_
          intro g cap w6 hown6 hg6 hl6
          have HO6 := Lib.hid hown6; have HG6 := Lib.hid hg6; have HL6 := Lib.hid hl6
          clear hown6 hg6 hl6
          refine wpList_nil (Lx.nq_mk (Lx.kept_of ((Lx.Keeps.alloc (w := u.drew) _ HS1.out).trans (Lx.Keeps.grown HG6.out (fun q hq => by have := HS1.out q hq; simp; omega) (fun q hq hq2 => ?_)))) (hK _ _ ?_))
          · rw [own_val] at hq
            have := HSG.out q hq
            rcases hq2 with e | e <;> omega
          clear hK K
          simp only [Act.put, List.setIfInBounds_toArray, List.set_cons_succ, List.set_cons_zero]
          repeat (refine Lx.wpX_step (fun K hK => ?_); first | (refine Lx.opX_free (by rfl) (by rfl) (by rfl) ?_; go_big_quiet_op; refine hK _ _ ?_; clear hK K) | (refine Lx.opX_nil (by rfl) (by rfl) (by rfl) (by rfl) ?_; refine hK _ _ ?_; clear hK K; simp only [Act.put, List.setIfInBounds_toArray, List.set_cons_succ, List.set_cons_zero]))
          refine Lx.wpX_nil ?_
          have hsm : ∀ q, (q = h + 3 ∨ q = wr.heap.size) → some q ≠ s.val.ownBlock := fun q hq e => by
            rw [own_val] at e
            have := HSG.out q e.symm
            rcases hq with e | e <;> omega
          have h6 : ∀ q, (q = h + 3 ∨ q = wr.heap.size) → w6.heap[q]? = u.heap[q]? := fun q hq => (HG6.out.block q (by have := HS1.out q hq; simp; omega) (hsm q hq)).trans (Below.heap_alloc u.drew _ q (HS1.out q hq))
          have hT6 := (h6 _ (.inl rfl)).trans HBu.out.cell
          have HCB6 := Lib.hid ((h6 _ (.inr rfl)).trans HCB.out)
          have y0 := cells_at hT6 0 _ rfl
          have z0 := frozen_at' hT6 0
          have hne : ¬ wr.heap.size = h + 3 := by omega
          clear hsm h6 hT6 x0 t0
          go_upto_region 12 with fail
          have hBd : Bld u.drew h w3.heap.size l (rootS l) k k k s kf := HBu.out.same (fun _ _ => rfl)
          have hB2 := hBd.ids HX.out (u2 := w6.setCell ⟨h + 3, 0, none⟩ (.slice (some ⟨g, 0, none⟩) ((Tp.ids ((sortC l).take k)).length + 1) cap)) HO6.out (by have := HG6.out; rwa [own_val] at this) (by have := HL6.out; rw [own_val] at this; simpa using this) rfl
          have hW2 : Below w.heap.size w (w6.setCell ⟨h + 3, 0, none⟩ (.slice (some ⟨g, 0, none⟩) ((Tp.ids ((sortC l).take k)).length + 1) cap)) := ((HWu.out.drew.alloc (by simp; omega) _).grown HG6.out (by simp; omega) (fun q hq => by rw [own_val] at hq; have := HSG.out q hq; omega)).setCell (by simp; omega) _
          have hQ2 : ∀ q, q < w3.heap.size → q ≠ h → q ≠ h + 1 → q ≠ h + 2 → q ≠ h + 3 → (w6.setCell ⟨h + 3, 0, none⟩ (.slice (some ⟨g, 0, none⟩) ((Tp.ids ((sortC l).take k)).length + 1) cap)).heap[q]? = w3.heap[q]? := fun q hq a1 a2 a3 a4 =>
            (Below.heap_setCell _ _ _ _ a4).trans ((HG6.out.block q (by simp; omega) (fun e => by rw [own_val] at e; have := HSG.out q e.symm; omega)).trans ((Below.heap_alloc u.drew _ q (by simp; omega)).trans (HQu.out q hq a1 a2 a3 a4)))
          have hC2 : (w6.setCell ⟨h + 3, 0, none⟩ (.slice (some ⟨g, 0, none⟩) ((Tp.ids ((sortC l).take k)).length + 1) cap)).heap[wr.heap.size]? = some (.cells #[.int .i64 x.id, .int .i64 x.parent, .float .f64 x.share, .int .i64 x.prio, .int .i64 x.quantum, .int .i64 x.limit, .int .i64 x.weight, .int .i64 x.minIdle, .int .i64 x.maxIdle, .bool x.bounded, .bool x.isolated] 84 (0, 0)) := (Below.heap_setCell _ _ _ _ hne).trans HCB6.out
          have hs6 : u.heap.size < w6.heap.size := by have := HG6.out.size; simp at this; omega
          have hs2 : (w6.setCell ⟨h + 3, 0, none⟩ (.slice (some ⟨g, 0, none⟩) ((Tp.ids ((sortC l).take k)).length + 1) cap)).heap.size = w6.heap.size := by simp [World.setCell]
          generalize World.setCell w6 _ _ = u2 at *
          have HB2 := Lib.hid hB2; have HW2 := Lib.hid hW2; have HQ2 := Lib.hid hQ2; have HC2 := Lib.hid hC2
          have hu2s : wr.heap.size < u2.heap.size := by omega
          have t1 := cells_at hB2.cell 1 _ rfl
          have d0 := cells_at hC2 0 _ rfl; have d1 := cells_at hC2 1 _ rfl; have d2 := cells_at hC2 2 _ rfl; have d3 := cells_at hC2 3 _ rfl; have d4 := cells_at hC2 4 _ rfl; have d5 := cells_at hC2 5 _ rfl; have d6 := cells_at hC2 6 _ rfl; have d7 := cells_at hC2 7 _ rfl; have d8 := cells_at hC2 8 _ rfl; have d9 := cells_at hC2 9 _ rfl; have d10 := cells_at hC2 10 _ rfl
          have hxp := HG.out.pos x (sort_at HX.out)
          have hwfx := wf_id (i := x.id) (by omega)
          have hwfp := wf_id (i := x.parent) (by omega)
          have hk64 : k < 64 := by have := HLS.out; omega
          clear hB2 hW2 hQ2 hC2 hBd y0 z0 hs6 hs2 HO6 HG6 HL6 HBu HWu HQu HCB6
          go_still_tail 7, (by kernel_rfl)
          change wpList _ _ _ _ _ (World.drew _)
          refine wpList_put cls_kind (by rfl) _ _ _ 131 (by rfl) 3 84 Tryz.underlying3 Tryz.underlying131 clsZ h k (clsF l k) _ (by rfl) (HB2.out.cls.block rfl) (by omega) x.id x (by rfl) (by rfl) hwfx ?_
          intro w7 hc7 hg7
          have HC7 := Lib.hid hc7; have HG7 := Lib.hid hg7
          clear hc7 hg7
          have hB7 := (HB2.out.same (w' := u2.drew) (fun _ _ => rfl)).cls' HX.out HC7.out HG7.out
          have hs7 : u2.heap.size ≤ w7.heap.size := HG7.out.size
          have hW7 : Below w.heap.size w w7 := HW2.out.drew.grown HG7.out (by simp; omega) (fun q hq => by injection hq; omega)
          have h7 : ∀ q, q < u2.heap.size → q ≠ h → w7.heap[q]? = u2.heap[q]? := fun q hq hne => HG7.out.block q hq (fun e => hne (by injection e))
          have hQ7 : ∀ q, q < w3.heap.size → q ≠ h → q ≠ h + 1 → q ≠ h + 2 → q ≠ h + 3 → w7.heap[q]? = w3.heap[q]? := fun q hq a1 a2 a3 a4 => (h7 q (by omega) a1).trans (HQ2.out q hq a1 a2 a3 a4)
          have hC7 := (h7 wr.heap.size hu2s (by omega)).trans HC2.out
          have HB7 := Lib.hid hB7; have HW7 := Lib.hid hW7; have HQ7 := Lib.hid hQ7; have HCB7 := Lib.hid hC7
          have d1 := cells_at hC7 1 _ rfl
          have hws7 : w3.heap.size ≤ w7.heap.size := by omega
          have hws7b : wr.heap.size < w7.heap.size := by omega
          clear hB7 hW7 h7 hQ7 hC7 HB2 HW2 HQ2 HC2 HC7 HG7 t1 d0 d2 d3 d4 d5 d6 d7 d8 d9 d10 hs7
          by_cases hp : x.parent = 0
          · have e1 : (x.parent != 0) = false := by rw [bne_eq_false_iff_eq]; exact hp
            have HTP := Lib.hid (HB7.out.top HX.out hp)
            clear hp
            go_wp2_with fail
            go_roundg ((sortC l).length - (k + 1))
            case measure => omega
            case rel => exact ⟨k + 1, _, _, by go_num, by omega, by omega, HTP, HW7, HQ7, hws7⟩
          · have e1 : (x.parent != 0) = true := by rw [bne_iff_ne]; exact hp
            have HP := Lib.hid hp
            clear hp
            go_upto_region 14 with fail
            have c1 := cells_at HB7.out.cell 2 _ rfl
            have d0 := cells_at HCB7.out 0 _ rfl
            obtain ⟨sv, hsv⟩ : ∃ sv, sv = (kf x.parent).getD Sv.nil := ⟨_, rfl⟩
            have hS7 : ∀ q, (q = h + 3 ∨ q = wr.heap.size ∨ q = h + 1) → q < w7.heap.size := fun q hq => by rcases hq with e | e | e <;> omega
            have HS7 := Lib.hid hS7
            have hlk : ∀ w', (∃ z, w' = Lx.kept (fun q => q = h + 3 ∨ q = wr.heap.size ∨ q = h + 1) w7.drew z) → (Instr.lookup 132 (.map (some (h + 1))) (.int .i64 x.parent) false).run Tryz.prog w' = .ok sv.val w' := fun w' hw' => by
              obtain ⟨z, rfl⟩ := hw'
              have h1 := HB7.out.kid.map.block (w' := Lx.kept (fun q => q = h + 3 ∨ q = wr.heap.size ∨ q = h + 1) w7.drew z) (Lx.heap_kept (S := fun q => q = h + 3 ∨ q = wr.heap.size ∨ q = h + 1) (W := w7.drew) (b := h + 1) (.inr (.inr rfl)))
              have h2 := h1.look sv_kind Tryz.underlying3 Tryz.underlying132 (zslice _) hwfp
              rw [hsv]; exact h2
            have HLK := Lib.hid hlk
            have hrow := HB7.out.kid.row x.parent
            rw [← hsv] at hrow
            have hrl := kidsP_len (l := l) k x.parent
            have hsvb : ∀ q, sv.g = some q → w3.heap.size ≤ q ∧ q < wr.heap.size := fun q hq => HRG.out x.parent q (by unfold rowOf; rw [← hsv]; exact hq)
            have HROW := Lib.hid hrow; have HSV := Lib.hid hsv; have HSVB := Lib.hid hsvb
            clear hS7 hlk hrow hsv hsvb
            refine Lx.wp_region_X 17 (fun w' => ∃ z, w' = Lx.kept (fun q => q = h + 3 ∨ q = wr.heap.size ∨ q = h + 1) w7.drew z) (fun i => i == 15 || i == 16) (by kernel_rfl) (by kernel_rfl) (Lx.kept_of (Lx.Keeps.refl _ _)) ?_
            simp only [List.take_succ_cons, List.take_zero, List.drop_succ_cons, List.drop_zero]
            repeat (refine Lx.wpX_step (fun K hK => ?_); first | (refine Lx.opX_free (by rfl) (by rfl) (by rfl) ?_; go_big_quiet_op; refine hK _ _ ?_; clear hK K) | (refine Lx.opX_nil (by rfl) (by rfl) (by rfl) (by rfl) ?_; refine hK _ _ ?_; clear hK K; simp only [Act.put, List.setIfInBounds_toArray, List.set_cons_succ, List.set_cons_zero]))
            refine Lx.wpX_step (fun K hK => ?_)
            refine Lx.opX_look (by rfl) (by rfl) (by rfl) (by rfl) (by rfl) HLK.out ?_
            refine hK _ _ ?_
            clear hK K
            simp only [Act.put, List.setIfInBounds_toArray, List.set_cons_succ, List.set_cons_zero]
            repeat (refine Lx.wpX_step (fun K hK => ?_); first | (refine Lx.opX_free (by rfl) (by rfl) (by rfl) ?_; go_big_quiet_op; refine hK _ _ ?_; clear hK K) | (refine Lx.opX_nil (by rfl) (by rfl) (by rfl) (by rfl) ?_; refine hK _ _ ?_; clear hK K; simp only [Act.put, List.setIfInBounds_toArray, List.set_cons_succ, List.set_cons_zero]))
            refine Lx.wpX_step (fun K hK => ?_)
            refine Lx.opX_law (by rfl) (by rfl) ?_
            go_wp2_with fail
            refine Lx.nq_mk (Lx.kept_of (Lx.Keeps.alloc _ HS7.out)) (hK _ _ ?_)
            clear hK K
            refine Lx.wpX_step (fun K hK => ?_)
            refine Lx.opX_law (by rfl) (by rfl) ?_
            refine wpList_push_at (by rfl) _ _ 38 (by rfl) Tryz.underlying38 w3.heap.size x.id w7.drew sv.val (kidsP l k x.parent) (by rfl) HROW.out (by rfl) (by omega) (by simp; omega) ?_
            intro g2 cap2 w9 hown9 hg9 hl9
            have HO9 := Lib.hid hown9; have HG9 := Lib.hid hg9; have HL9 := Lib.hid hl9
            clear hown9 hg9 hl9
            refine wpList_nil (Lx.nq_mk (Lx.kept_of ((Lx.Keeps.alloc (w := w7.drew) _ HS7.out).trans (Lx.Keeps.grown HG9.out (fun q hq => by have := HS7.out q hq; simp; omega) (fun q hq hq2 => ?_)))) (hK _ _ ?_))
            · rw [own_val] at hq
              have := HSVB.out q hq
              rcases hq2 with e | e | e <;> omega
            clear hK K
            simp only [Act.put, List.setIfInBounds_toArray, List.set_cons_succ, List.set_cons_zero]
            refine Lx.wpX_nil ?_
            have hB9 : Bld w7.drew h w3.heap.size l (rootS l) (k + 1) (k + 1) k ⟨some g, (Tp.ids ((sortC l).take k)).length + 1, cap⟩ kf := HB7.out.same (fun _ _ => rfl)
            have h9 : ∀ q, q < w7.heap.size → sv.g ≠ some q → w9.heap[q]? = w7.heap[q]? := fun q hq hne => (HG9.out.block q (by simp; omega) (fun e => hne (by rw [own_val] at e; exact e.symm))).trans (Below.heap_alloc w7.drew _ q hq)
            have hsm : ∀ q, q < w3.heap.size → sv.g ≠ some q := fun q hq e => by have := HSVB.out q e; omega
            have hmK := HB7.out.kid.map.block (w' := w9) (h9 _ (by omega) (hsm _ (by omega)))
            have hW9 : Below w.heap.size w w9 := (HW7.out.drew.alloc (by simp; omega) _).grown HG9.out (by simp; omega) (fun q hq => by rw [own_val] at hq; have := HSVB.out q hq; omega)
            have hQ9 : ∀ q, q < w3.heap.size → q ≠ h → q ≠ h + 1 → q ≠ h + 2 → q ≠ h + 3 → w9.heap[q]? = w3.heap[q]? := fun q hq a1 a2 a3 a4 => (h9 q (by omega) (hsm q hq)).trans (HQ7.out q hq a1 a2 a3 a4)
            have hs9 : w7.heap.size < w9.heap.size := by have := HG9.out.size; simp at this; omega
            have HB9 := Lib.hid hB9; have HMK := Lib.hid hmK; have HW9 := Lib.hid hW9; have HQ9 := Lib.hid hQ9
            clear hB9 h9 hsm hmK hW9 hQ9 c1 d0 d1
            go_wp2_with (first | (refine wpList_put sv_kind (by rfl) _ _ _ 132 (by rfl) 3 38 Tryz.underlying3 Tryz.underlying132 Sv.nil (h + 1) k kf _ (by rfl) HMK.out (by omega) x.parent ⟨some g2, (kidsP l k x.parent).length + 1, cap2⟩ (by rfl) (by rfl) hwfp ?_; intro w10 hm10 hg10; have HM10 := Lib.hid hm10; have HG10 := Lib.hid hg10; clear hm10 hg10))
            go_roundg ((sortC l).length - (k + 1))
            case measure => omega
            case rel =>
              refine ⟨k + 1, _, _, by go_num, by omega, by omega, Lib.hid (HB9.out.kid' (o := .cells #[.int .i64 x.id] 3) HX.out HP.out HO9.out ?_ ?_ HM10.out HG10.out), Lib.hid (HW9.out.grown HG10.out (by omega) (fun q hq => by injection hq; omega)), Lib.hid (fun q hq a1 a2 a3 a4 => (HG10.out.block q (by omega) (fun e => a2 (by injection e))).trans (HQ9.out q hq a1 a2 a3 a4)), by have := HG10.out.size; omega⟩
              · have := HG9.out; rw [own_val, HSV.out] at this; exact this
              · have := HL9.out; rw [own_val, HSV.out] at this; simpa [rowOf] using this
        · have hltz : ¬ (k : Int) < ((sortC l).length : Int) := by omega
          obtain rfl : k = (sortC l).length := by omega
          have hkid : Kid wr w3.heap.size (kids l) (h + 1) (sortC l).length kf := ⟨HB.out.kid.map, fun id => by have := HB.out.kid.row id; rwa [kidsP_all] at this, HB.out.kid.lt⟩
          have hD := root_deep64 HG.out HR.out h64
          have hrm := root_mem HR.out
          have hlift := Lib.hid (lift_c l HG.out h64 (h + 3) h (h + 1) (h + 2) w3.heap.size (sortC l).length (s.g.map fun b => ⟨b, 0, none⟩) s.n s.c (rootS l) kf (by omega) (by omega) (by omega) 64 (rootS l) (Nat.le_refl _) hD hrm wr (fun _ => none) HB.out.cell hkid (HB.out.lev.more (by omega)) (fun i hi => by cases hi))
          have HKID := Lib.hid hkid; have HDP := Lib.hid hD
          have hlb := level_bd (l := l) (rootS l)
          obtain ⟨lv, hlv⟩ : ∃ lv, lv = level l (rootS l) := ⟨_, rfl⟩
          have hlift2 := hlift.out
          unfold LiftOk at hlift2
          rw [← hlv] at hlift2 hlb
          have HLIFT := Lib.hid hlift2; have HLV := Lib.hid hlv
          clear hkid hD hlift hlift2 hlv hrm
          go_upto_region 17 with (go_at_call 129; refine (HLIFT.out).mono ?_; rintro e w4 ⟨rfl, hl4, hg4⟩; have HL4 := Lib.hid hl4; have HG4 := Lib.hid hg4; clear hl4 hg4)
          have h4 : ∀ q, q < wr.heap.size → q ≠ h + 2 → w4.heap[q]? = wr.heap[q]? := fun q hq hne => HG4.out.block q hq (fun e => hne (by injection e))
          have hT4 := (h4 (h + 3) (by omega) (by omega)).trans HB.out.cell
          have t3 := cells_at hT4 3 _ rfl
          obtain ⟨ks, hk1, hk2, hk3, hk4, hrun⟩ := HL4.out.keys Tryz.underlying3 Tryz.underlying133 3
          have hin : ∀ i, i ∈ ks ↔ i ∈ desc l 64 (rootS l) := fun i => by
            rw [hk2]; unfold notes
            by_cases hi : i ∈ desc l 64 (rootS l) <;> simp [hi]
          have hcl := count_lt HG.out hk1 hin (fun i hi => desc_ids 64 _ i (root_mem HR.out) hi)
          have HH4 := Lib.hid h4; have HT4 := Lib.hid hT4; have HRUN := Lib.hid hrun
          have hW4 : Hid (Below w.heap.size w w4) := Lib.hid (HW.out.grown HG4.out HW.out.size (fun q hq => by injection hq; omega))
          clear h4 hT4 hrun hk1 hk2 hk4 hin
          by_cases hall : ∀ i ∈ ids l, i ∈ desc l 64 (rootS l)
          · have hge : ¬ (ks.length : Int) < (l.length : Int) := fun hlt => hcl.1 (by omega) hall
            have HALL := Lib.hid hall
            clear hcl hall
            by_cases h8 : 8 < lv
            · have HC := Lib.hid (chk_deep H0.out HR.out HALL.out (by rw [← HLV.out]; exact h8))
              go_wp2_with (first | (refine wpList_len (by rfl) _ 133 (by rfl) (by rfl) HRUN.out ?_))
              go_ret2
              exact .inl ⟨by rw [HC.out]; decide, by rw [HC.out]; rfl, hW4.out⟩
            · have HC := Lib.hid (chk_fine H0.out HR.out HALL.out (by rw [← HLV.out]; exact h8))
              go_wp2_with (first | (refine wpList_len (by rfl) _ 133 (by rfl) (by rfl) HRUN.out ?_))
              go_ret2
              refine .inr ⟨HC.out, h + 3, rfl, ?_, by omega, hW4.out⟩
              have hs4 : wr.heap.size ≤ w4.heap.size := HG4.out.size
              have hsn : s.n = l.length := by rw [HB.out.n, HLS.out]
              have hidl : (Tp.ids (sortC l)).length = l.length := by unfold Tp.ids; rw [List.length_map]; exact HLS.out
              refine ⟨h, s.g.map fun b => ⟨b, 0, none⟩, s.c, kf, rfl, by omega, ?_, ?_, ?_, ?_, fun id => ?_, ?_⟩
              · have := HT4.out; unfold Sv.val at this; rw [hsn] at this; exact this
              · have h1 := own_same (w' := w4) HB.out.idr (fun q hq => HH4.out q (HB.out.idr.lt q hq).2 (by have := (HB.out.idr.lt q hq).1; omega))
                rw [List.take_length, hidl] at h1
                unfold Sv.val at h1
                rw [hsn] at h1
                exact Sl.of_own h1
              · have h1 := HB.out.cls.block (w' := w4) (HH4.out h (by omega) (by omega))
                rw [clsF_all HG.out] at h1
                exact h1.more (by have := HLS.out; omega)
              · exact (HB.out.kid.map.block (w' := w4) (HH4.out (h + 1) (by omega) (by omega))).more (by have := HLS.out; omega)
              · have h1 := own_same (w' := w4) (HKID.out.row id) (fun q hq => HH4.out q ((HKID.out.row id).lt q hq).2 (by have := ((HKID.out.row id).lt q hq).1; omega))
                generalize (kf id).getD Sv.nil = sv at h1 ⊢
                unfold Sv.val at h1 ⊢
                have hn := row_len h1
                rw [hn] at h1 ⊢
                exact ⟨_, _, rfl, Sl.of_own h1⟩
              · have h1 := HL4.out
                have e : notes l (fun _ => none) (desc l 64 (rootS l)) = notes l (fun _ => none) (Tp.ids l) := by
                  funext i
                  unfold notes
                  by_cases hi : i ∈ Tp.ids l
                  · rw [if_pos hi, if_pos (HALL.out i hi)]
                  · rw [if_neg hi, if_neg (fun hd => hi (desc_ids 64 _ i (root_mem HR.out) hd))]
                rw [e] at h1
                exact h1
          · have hge : (ks.length : Int) < (l.length : Int) := by have := hcl.2 hall; omega
            have HC := Lib.hid (chk_ring H0.out HR.out hall)
            clear hcl hall
            go_wp2_with (first | (refine wpList_len (by rfl) _ 133 (by rfl) (by rfl) HRUN.out ?_))
            go_ret2
            exact .inl ⟨by rw [HC.out]; decide, by rw [HC.out]; rfl, hW4.out⟩
    · have HR := Lib.hid (chk_par H0.out hR)
      have HRN := Lib.hid hR
      clear hR
      go_wp2_with (go_at_call 128; refine (hpar.out _ B1.out).mono ?_; rintro e w2 ⟨⟨hn, _⟩ | ⟨_, rfl⟩, hb2⟩; exact absurd hn HRN.out; have B2 := Lib.hid (B1.out.trans (hb2.mono B1.out.size)); clear hb2)
      go_ret2
      exact .inl ⟨by rw [HR.out]; decide, by rw [HR.out]; rfl, B2.out⟩
  · have hc := Lib.hid (chk_scan h0)
    have H0 := Lib.hid h0
    have hb0 : (checkS l == 0) = false := by rw [beq_eq_false_iff_ne]; exact h0
    have hn0 : (checkS l != 0) = true := by rw [bne_iff_ne]; exact h0
    generalize hcs : checkS l = cs at *
    have HCS := Lib.hid hcs
    clear h0 hI hcs
    go_enter Tryz.func57, Tryz.ntmps57
    go_wp2_with (go_at_call 127; refine (hck.out).mono ?_; rintro e w1 ⟨rfl, hb1⟩; have B1 := Lib.hid hb1; clear hb1)
    go_ret2
    exact .inl ⟨by rw [hc.out]; exact H0.out, by rw [hc.out]; rfl, B1.out⟩
end Go.Proofs.YtpchhfhmopmagaaGreat.Tr
