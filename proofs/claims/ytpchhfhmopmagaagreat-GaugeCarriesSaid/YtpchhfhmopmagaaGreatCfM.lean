/- config.Canon. A set outlives a store into a cell that holds no pointer yet. config.Compile. -/
import Derived.Test.YtpchhfhmopmagaaGreatFtM
import Derived.Test.YtpchhfhmopmagaaGreatTr6
import Derived.Test.YtpchhfhmopmagaaGreatQuM
import Derived.Test.YtpchhfhmopmagaaGreatPaM
import Derived.Sort.CutIn
import Derived.Sort.QuietIn
import Derived.Test.YtpchhfhmopmagaaGreatLxM
set_option linter.unusedVariables false
set_option linter.unusedSimpArgs false
/- config.Canon. -/
namespace Go.Proofs.YtpchhfhmopmagaaGreat.Cf
open Go.RowKit Go.Shelf Go.Sort Go.Maps Go.Proofs.YtpchhfhmopmagaaGreat.Wd Go.Proofs.YtpchhfhmopmagaaGreat.Li Go.Proofs.YtpchhfhmopmagaaGreat.Mp Go.Proofs.YtpchhfhmopmagaaGreat.Tr Go.Proofs.YtpchhfhmopmagaaGreat.Tp Go.Proofs.YtpchhfhmopmagaaGreat.Cl Go.Proofs.YtpchhfhmopmagaaGreat.So Go.Proofs.YtpchhfhmopmagaaGreat.Fi Go.Proofs.YtpchhfhmopmagaaGreat.Sw
attribute [local go_sem] run_store_float

abbrev cfV (t r d : Int) (a b : Value) : Value := .agg #[.int .i64 t, .int .i64 r, .int .i64 d, a, b]
theorem set_cells {w : World} {g : Nat} {cs : Array Value} {t : TypeId} (h : w.heap[g]? = some (.cells cs t (0, 0))) (i : Nat) (v : Value) : (w.setCell ⟨g, i, none⟩ v).heap[g]? = some (.cells (cs.setIfInBounds i v) t (0, 0)) := by
  simp [World.setCell, Array.getElem?_modify, h]
theorem lies_other {α : Type} {z : Nat} {cells : α → List Value} (hc : ∀ x, (cells x).length = z) {N : Nat} {w w' : World} {sv : Value} {zs : List α} (h : Lies z cells N w sv zs) {g : Nat} {cs : Array Value} {t : TypeId} (hg : w.heap[g]? = some (.cells cs t (0, 0))) (hs : cs.size < z) (hb : ∀ q, q < N → q ≠ g → w'.heap[q]? = w.heap[q]?) : Lies z cells N w' sv zs := by
  rcases h with e | ⟨b, off, c, e, hb0, hcs⟩
  · exact .inl e
  · refine .inr ⟨b, off, c, e, hb0, fun j x hx i' v' hv' => ?_⟩
    have h0 := hcs j x hx i' v' hv'
    by_cases e2 : b = g
    · exfalso
      subst e2
      obtain ⟨v2, hv2⟩ : ∃ v2, (cells x)[z - 1]? = some v2 := ⟨_, List.getElem?_eq_getElem (by rw [hc x]; omega)⟩
      have h1 := hcs j x hx (z - 1) v2 hv2
      simp [World.cell?, hg] at h1
      have h2 : off + j * z + (z - 1) < cs.size := by
        rcases Nat.lt_or_ge (off + j * z + (z - 1)) cs.size with h | h
        · exact h
        · rw [Array.getElem?_eq_none h] at h1; cases h1
      omega
    · rw [← h0]; exact World.cell?_of_block (hb b hb0 e2)
theorem lies_set {α : Type} {z : Nat} {cells : α → List Value} (hc : ∀ x, (cells x).length = z) {N : Nat} {w : World} {sv : Value} {zs : List α} (h : Lies z cells N w sv zs) {g : Nat} {cs : Array Value} {t : TypeId} (hg : w.heap[g]? = some (.cells cs t (0, 0))) (hs : cs.size < z) (i : Nat) (v : Value) : Lies z cells N (w.setCell ⟨g, i, none⟩ v) sv zs :=
  lies_other hc h hg hs (fun _ _ e2 => Below.heap_setCell _ _ _ _ e2)
def CanonOk (t r d : Int) (l : List Cls) (fs : List F) (w : World) (e : Ending) (w' : World) : Prop :=
  ∃ A1 c1 B1 c2, e = .returned (cfV t r d (.slice A1 l.length c1) (.slice B1 fs.length c2)) ∧ Holds w'.heap.size w' (.slice A1 l.length c1) (sortC l) ∧ HoldsF w'.heap.size w' (.slice B1 fs.length c2) (sortK F.id fs) ∧ Below w.heap.size w w'
set_option maxRecDepth 20000 in
set_option maxHeartbeats 2000000 in
theorem canon_c (t r d : Int) (A : Option Addr) (n ca : Nat) (B : Option Addr) (m cb : Nat) (l : List Cls) (fs : List F) (hl : l.length ≤ 1048576) (hf : fs.length ≤ 1048576) (w : World) (hI : Holds w.heap.size w (.slice A n ca) l) (hF : HoldsF w.heap.size w (.slice B m cb) fs) :
    Calls Tryz.prog 49 #[cfV t r d (.slice A n ca) (.slice B m cb)] w (CanonOk t r d l fs w) := by
  have h0 : ((w.alloc (.cells #[.int .i64 t, .int .i64 r, .int .i64 d, .slice A n ca, .slice B m cb] 25)).alloc (.cells #[.int .i64 0, .int .i64 0, .int .i64 0, .slice none 0 0, .slice none 0 0] 25)).heap[w.heap.size]? = some (.cells #[.int .i64 t, .int .i64 r, .int .i64 d, .slice A n ca, .slice B m cb] 25 (0, 0)) := (Below.heap_alloc _ _ _ (by simp)).trans (heap_alloc_new _ _)
  have h1 : ((w.alloc (.cells #[.int .i64 t, .int .i64 r, .int .i64 d, .slice A n ca, .slice B m cb] 25)).alloc (.cells #[.int .i64 0, .int .i64 0, .int .i64 0, .slice none 0 0, .slice none 0 0] 25)).heap[w.heap.size + 1]? = some (.cells #[.int .i64 0, .int .i64 0, .int .i64 0, .slice none 0 0, .slice none 0 0] 25 (0, 0)) := by
    have := heap_alloc_new (w.alloc (.cells #[.int .i64 t, .int .i64 r, .int .i64 d, .slice A n ca, .slice B m cb] 25)) (.cells #[.int .i64 0, .int .i64 0, .int .i64 0, .slice none 0 0, .slice none 0 0] 25)
    simpa using this
  have hb0 : Below w.heap.size w ((w.alloc (.cells #[.int .i64 t, .int .i64 r, .int .i64 d, .slice A n ca, .slice B m cb] 25)).alloc (.cells #[.int .i64 0, .int .i64 0, .int .i64 0, .slice none 0 0, .slice none 0 0] 25)) := ((Below.refl _ w).alloc (Nat.le_refl _) _).alloc (by simp) _
  have hz0 : ((w.alloc (.cells #[.int .i64 t, .int .i64 r, .int .i64 d, .slice A n ca, .slice B m cb] 25)).alloc (.cells #[.int .i64 0, .int .i64 0, .int .i64 0, .slice none 0 0, .slice none 0 0] 25)).heap.size = w.heap.size + 2 := by simp
  have H0 := Lib.hid h0; have H1 := Lib.hid h1; have HB0 := Lib.hid hb0; have HZ0 := Lib.hid hz0; have HI := Lib.hid hI; have HF := Lib.hid hF
  clear h0 h1 hb0 hz0 hI hF
  go_enter Tryz.func49, Tryz.ntmps49
  go_upto_region 1 with fail
  generalize World.alloc (World.alloc w _) _ = U at *
  have hz := HZ0.out
  have x3 := cells_at H0.out 3 (.slice A n ca) rfl
  have HS := Lib.hid (sorted_c A n ca l hl U ((HI.out.below HB0.out).up HB0.out.size))
  go_upto_region 2 with (go_at_call 102; (with_reducible refine (HS.out).mono ?_); rintro e w2 ⟨v, rfl, hS, hb2⟩; obtain ⟨A3, c3, rfl⟩ := hS.form; have HS2 := Lib.hid hS; have HB2 := Lib.hid hb2; have hk0 := (hb2.block w.heap.size (by omega)).trans H0.out; have y3 := cells_at hk0 3 (.slice A n ca) rfl; have z3 := frozen_at' hk0 3; have HK0 := Lib.hid hk0; clear hS hb2 hk0)
  have hs2 := HB2.out.size
  have hlS : (sortC l).length = l.length := sortC_len l
  have HLS := Lib.hid hlS
  rw [hlS] at HS2 ⊢
  clear hlS
  have hk3 := set_cells HK0.out 3 (.slice A3 l.length c3)
  have hu1 : (w2.setCell ⟨w.heap.size, 3, none⟩ (.slice A3 l.length c3)).heap[w.heap.size + 1]? = some (.cells #[.int .i64 0, .int .i64 0, .int .i64 0, .slice none 0 0, .slice none 0 0] 25 (0, 0)) := (Below.heap_setCell _ _ _ _ (by simp)).trans ((HB2.out.block _ (by omega)).trans H1.out)
  have hu2 : ∀ q, q ≠ w.heap.size → (w2.setCell ⟨w.heap.size, 3, none⟩ (.slice A3 l.length c3)).heap[q]? = w2.heap[q]? := fun q hq => Below.heap_setCell _ _ _ _ hq
  have hus : (w2.setCell ⟨w.heap.size, 3, none⟩ (.slice A3 l.length c3)).heap.size = w2.heap.size := by simp [World.setCell]
  have hub : Below w.heap.size w (w2.setCell ⟨w.heap.size, 3, none⟩ (.slice A3 l.length c3)) := (HB0.out.trans (HB2.out.mono HB0.out.size)).setCell (Nat.le_refl _) _
  have HSu : Hid (Holds w2.heap.size (w2.setCell ⟨w.heap.size, 3, none⟩ (.slice A3 l.length c3)) (.slice A3 l.length c3) (sortC l)) := Lib.hid (lies_set (z := 11) (cells := Cls.cells) (fun x => rfl) HS2.out HK0.out (by show 5 < 11; decide) 3 (.slice A3 l.length c3))
  have hus2 := hus
  generalize World.setCell w2 _ _ = u at *
  have HK3 := Lib.hid hk3; have HU1 := Lib.hid hu1; have HUB := Lib.hid hub
  have x4 := cells_at hk3 4 (.slice B m cb) rfl
  have hul : w.heap.size + 1 < u.heap.size := by omega
  have hun : w.heap.size < u.heap.size := by omega
  have hB4 : Below w.heap.size w (u.alloc (.cells #[.slice B m cb] 23)) := hub.alloc hub.size _
  have HC := Lib.hid (Fi.sortedStable_c cmpD_is u.heap.size (.slice B m cb) fs hf (u.alloc (.cells #[.slice B m cb] 23)) (by simp) (by simp) (Lies.up hB4.size (Lies.below hB4 HF.out)))
  have hk4 := (Below.heap_alloc u (.cells #[.slice B m cb] 23) _ hun).trans hk3
  have hk5 := (Below.heap_alloc u (.cells #[.slice B m cb] 23) _ hul).trans hu1
  have hSv := Lib.hid (Holds.up (n₁ := (u.alloc (.cells #[.slice B m cb] 23)).heap.size) (by simp) (Holds.below ((Below.refl u.heap.size u).alloc (Nat.le_refl _) (.cells #[.slice B m cb] 23)) (Holds.up (n₁ := u.heap.size) (by omega) HSu.out)))
  have hun4 : w.heap.size + 1 < (u.alloc (.cells #[.slice B m cb] 23)).heap.size := by simp; omega
  have HK4 := Lib.hid hk4; have HK5 := Lib.hid hk5; have HB4 := Lib.hid hB4; have HN4 := Lib.hid hun4
  clear hk3 hu1 hu2 hus hus2 hub hB4 hk4 hk5 hun4 HS2 HK0 HS HB2 y3 z3 x3 H0 H1 HZ0 hz hs2 HB0
  go_upto_region 3 with (first
    | (go_at_call 104; (with_reducible refine (Fi.values_c _ _ _ _).mono ?_); rintro e w' ⟨rfl, rfl⟩)
    | (go_at_call 103; (with_reducible refine (HC.out).mono ?_); rintro e w4 ⟨v, rfl, hS, hb2⟩; obtain ⟨A5, c5, rfl⟩ := Lies.form hS; have HS4 := Lib.hid hS; have HB5 := Lib.hid hb2; have hk0 := (hb2.block w.heap.size (Nat.lt_of_succ_lt HN4.out)).trans HK4.out; have y4 := cells_at hk0 4 (.slice B m cb) rfl; have z4 := frozen_at' hk0 4; have HK6 := Lib.hid hk0; clear hS hb2 hk0))
  have hlS : (sortK F.id fs).length = fs.length := sortK_len fs
  rw [hlS] at HS4 ⊢
  clear hlS
  have hs5 := HB5.out.size
  have hn4 := HN4.out
  have hk7 := set_cells HK6.out 4 (.slice A5 fs.length c5)
  have hn1 : (w4.setCell ⟨w.heap.size, 4, none⟩ (.slice A5 fs.length c5)).heap[w.heap.size + 1]? = some (.cells #[.int .i64 0, .int .i64 0, .int .i64 0, .slice none 0 0, .slice none 0 0] 25 (0, 0)) := (Below.heap_setCell _ _ _ _ (by simp)).trans ((HB5.out.block _ hn4).trans HK5.out)
  have hub : Below w.heap.size w (w4.setCell ⟨w.heap.size, 4, none⟩ (.slice A5 fs.length c5)) := (HB4.out.trans (HB5.out.mono HB4.out.size)).setCell (Nat.le_refl _) _
  have hSC : Holds w4.heap.size w4 (.slice A3 l.length c3) (sortC l) := Holds.next HB5.out hSv.out
  have hSC2 : Hid (Holds w4.heap.size (w4.setCell ⟨w.heap.size, 4, none⟩ (.slice A5 fs.length c5)) (.slice A3 l.length c3) (sortC l)) := Lib.hid (lies_set (z := 11) (cells := Cls.cells) (fun x => rfl) hSC HK6.out (by show 5 < 11; decide) 4 (.slice A5 fs.length c5))
  have hFC2 : Hid (HoldsF w4.heap.size (w4.setCell ⟨w.heap.size, 4, none⟩ (.slice A5 fs.length c5)) (.slice A5 fs.length c5) (sortK F.id fs)) := Lib.hid (lies_set (z := 15) (cells := F.cells) (fun x => rfl) HS4.out HK6.out (by show 5 < 15; decide) 4 (.slice A5 fs.length c5))
  have hus : (w4.setCell ⟨w.heap.size, 4, none⟩ (.slice A5 fs.length c5)).heap.size = w4.heap.size := by simp [World.setCell]
  have hn5 : w.heap.size + 1 < w4.heap.size := by omega
  rw [← hus] at hSC2 hFC2 hn5
  clear hSC hSv HS4 HK6 HB5 HB4 HC HK4 HK5 y4 z4 HSu x4 hus hs5 hn4
  generalize World.setCell w4 _ _ = u5 at *
  have e0 := cells_at hk7 0 (.int .i64 t) rfl; have e1 := cells_at hk7 1 (.int .i64 r) rfl; have e2 := cells_at hk7 2 (.int .i64 d) rfl; have e3 := cells_at hk7 3 (.slice A3 l.length c3) rfl; have e4 := cells_at hk7 4 (.slice A5 fs.length c5) rfl
  have HN1 := Lib.hid hn1; have HUB := Lib.hid hub; have HN5 := Lib.hid hn5
  clear hk7 hn1 hub hn5
  go_wp2_with (first | (refine wpList_store_whole (by rfl) 25 _ _ (by rfl) 5 Tryz.sizeOf25 (w.heap.size + 1) _ _ 25 (by rfl) (by rfl) HN1.out (by rfl) (by rfl) (by simp [Value.oneCell']) ?_; intro w6 hb6 hg6; have r0 := cells_at hb6 0 _ rfl; have r1 := cells_at hb6 1 _ rfl; have r2 := cells_at hb6 2 _ rfl; have r3 := cells_at hb6 3 _ rfl; have r4 := cells_at hb6 4 _ rfl; have HG6 := Lib.hid hg6; clear hb6 hg6))
  (try simp only [Exit.inBlock, Exit.then])
  refine bodyPost_ret (v := .agg #[.int .i64 t, .int .i64 r, .int .i64 d, .slice A3 l.length c3, .slice A5 fs.length c5]) (by simp [results, Tryz.results49, go_sem, r0, r1, r2, r3, r4]) rfl ?_
  have hs6 := HG6.out.size
  refine ⟨A3, c3, A5, c5, rfl, ?_, ?_, ?_⟩
  · exact Holds.up hs6 (lies_other (z := 11) (cells := Cls.cells) (fun x => rfl) hSC2.out HN1.out (by show 5 < 11; decide) (fun q hq hne => HG6.out.block q hq (fun e => hne (by injection e))))
  · exact Lies.up hs6 (lies_other (z := 15) (cells := F.cells) (fun x => rfl) hFC2.out HN1.out (by show 5 < 15; decide) (fun q hq hne => HG6.out.block q hq (fun e => hne (by injection e))))
  · exact HUB.out.grown HG6.out HUB.out.size (fun q hq => by injection hq; omega)
end Go.Proofs.YtpchhfhmopmagaaGreat.Cf

/- A set outlives a store into a cell that holds no pointer yet. -/
namespace Go.Proofs.YtpchhfhmopmagaaGreat.Cf
open Go.RowKit Go.Shelf Go.Sort Go.Maps Go.Proofs.YtpchhfhmopmagaaGreat.Wd Go.Proofs.YtpchhfhmopmagaaGreat.Li Go.Proofs.YtpchhfhmopmagaaGreat.Mp Go.Proofs.YtpchhfhmopmagaaGreat.Tr Go.Proofs.YtpchhfhmopmagaaGreat.Tp Go.Proofs.YtpchhfhmopmagaaGreat.Cl Go.Proofs.YtpchhfhmopmagaaGreat.So Go.Proofs.YtpchhfhmopmagaaGreat.Fi Go.Proofs.YtpchhfhmopmagaaGreat.Sw Go.Proofs.YtpchhfhmopmagaaGreat.Qu

section
variable {w : World} {g : Nat}
theorem sl_ptr {B n : Nat} {A : Option Addr} {zs : List Int} (h : Sl w B 1 A n (St.I zs)) (hp : w.cell? ⟨g, 0, none⟩ = some (.pointer none)) (v : Value) : Sl (w.setCell ⟨g, 0, none⟩ v) B 1 A n (St.I zs) :=
  ⟨h.1, fun h0 => by
    obtain ⟨a, ha, hb, hc⟩ := h.2 h0
    refine ⟨a, ha, hb, fun j u hu => (World.cell?_setCell_other w ⟨g, 0, none⟩ (a.add j) v (fun e => ?_)).trans (hc j u hu)⟩
    have h2 := hc j u hu
    rw [← e, hp] at h2
    unfold St.I at hu
    rw [List.getElem?_map] at hu
    obtain ⟨y, _, rfl⟩ := Option.map_eq_some_iff.1 hu
    injection h2 with h2; cases h2⟩
theorem at_ptr {α : Type} {agg : α → Value} {enc : α → DataW Unit} {zero : α} {P : Program} {k : TypeId} {b n : Nat} {f : Int → Option α} (h : At agg enc zero P k w b n f) {cs : Array Value} {t : TypeId} (hg : w.heap[g]? = some (.cells cs t (0, 0))) (v : Value) : At agg enc zero P k (w.setCell ⟨g, 0, none⟩ v) b n f := by
  have hm : ∃ es m, w.heap[b]? = some (.map es m) := by
    obtain ⟨D, ⟨es, ck, hm, _⟩, _⟩ := h
    exact ⟨es, ck, hm⟩
  refine h.block (Below.heap_setCell w ⟨g, 0, none⟩ v b (fun e => ?_))
  obtain ⟨es, m, e2⟩ := hm
  rw [e] at e2
  exact absurd (hg.symm.trans e2) (by simp)
variable (hg : w.heap[g]? = some (.cells #[.pointer none] 34 (0, 0)))
include hg
theorem cells_ptr {b : Nat} {cs : Array Value} {t : TypeId} (h : w.heap[b]? = some (.cells cs t (0, 0))) (ht : t ≠ 34) (v : Value) : (w.setCell ⟨g, 0, none⟩ v).heap[b]? = some (.cells cs t (0, 0)) := by
  refine (Below.heap_setCell w ⟨g, 0, none⟩ v b (fun e => ?_)).trans h
  rw [e, hg] at h
  injection h with h
  injection h with _ h2 _
  exact ht h2.symm
theorem tree_ptr {B T : Nat} {l : List Cls} (t : TreeAt w B T l) (v : Value) : TreeAt (w.setCell ⟨g, 0, none⟩ v) B T l := by
  obtain ⟨h, A, c, kf, rfl, hT, h1, h2, h3, h4, h5, h6⟩ := t
  have hp := cells_at hg 0 _ rfl
  exact ⟨h, A, c, kf, rfl, hT, cells_ptr hg h1 (by decide) v, sl_ptr h2 hp v, at_ptr h3 hg v, at_ptr h4 hg v, fun id => by obtain ⟨A', c', e, hs⟩ := h5 id; exact ⟨A', c', e, sl_ptr hs hp v⟩, at_ptr h6 hg v⟩
theorem table_ptr {B T : Nat} {l : List F} (t : TableAt w B T l) (v : Value) : TableAt (w.setCell ⟨g, 0, none⟩ v) B T l := by
  obtain ⟨h, A, c, s, kf, hT, hh, h1, h2, h3, h4, h5, A', c', e, hs⟩ := t
  have hp := cells_at hg 0 _ rfl
  exact ⟨h, A, c, s, kf, hT, hh, cells_ptr hg h1 (by decide) v, lies_set (z := 15) (cells := F.cells) (fun x => rfl) h2 hg (by show 1 < 15; decide) 0 v, at_ptr h3 hg v, h4, fun p => by obtain ⟨A', c', e, hs⟩ := h5 p; exact ⟨A', c', e, sl_ptr hs hp v⟩, A', c', e, sl_ptr hs hp v⟩
theorem quota_ptr {B q : Nat} {l : List Cls} {tpb : Int} (t : QuotaAt w B q l tpb) (v : Value) : QuotaAt (w.setCell ⟨g, 0, none⟩ v) B q l tpb := by
  obtain ⟨h, A, c, f, hq, hh, h1, h2, h3, h4⟩ := t
  have hp := cells_at hg 0 _ rfl
  refine ⟨h, A, c, f, hq, hh, cells_ptr hg h1 (by decide) v, sl_ptr h2 hp v, at_ptr h3 hg v, fun id => ⟨fun hi => ?_, (h4 id).2⟩⟩
  obtain ⟨T, e1, e2, e3⟩ := (h4 id).1 hi
  exact ⟨T, e1, e2, cells_ptr hg e3 (by decide) v⟩
theorem cls_ptr {B : Nat} {sv : Value} {l : List Cls} (h : Holds B w sv l) (v : Value) : Holds B (w.setCell ⟨g, 0, none⟩ v) sv l := lies_set (z := 11) (cells := Cls.cells) (fun x => rfl) h hg (by show 1 < 11; decide) 0 v
theorem fil_ptr {B : Nat} {sv : Value} {l : List F} (h : HoldsF B w sv l) (v : Value) : HoldsF B (w.setCell ⟨g, 0, none⟩ v) sv l := lies_set (z := 15) (cells := F.cells) (fun x => rfl) h hg (by show 1 < 15; decide) 0 v
end
end Go.Proofs.YtpchhfhmopmagaaGreat.Cf

/- config.Compile. -/
namespace Go.Proofs.YtpchhfhmopmagaaGreat.Cf
open Go.RowKit Go.Shelf Go.Sort Go.Maps Go.Proofs.YtpchhfhmopmagaaGreat.Wd Go.Proofs.YtpchhfhmopmagaaGreat.Li Go.Proofs.YtpchhfhmopmagaaGreat.Mp Go.Proofs.YtpchhfhmopmagaaGreat.Tr Go.Proofs.YtpchhfhmopmagaaGreat.Tp Go.Proofs.YtpchhfhmopmagaaGreat.Cl Go.Proofs.YtpchhfhmopmagaaGreat.So Go.Proofs.YtpchhfhmopmagaaGreat.Fi Go.Proofs.YtpchhfhmopmagaaGreat.Sw Go.Proofs.YtpchhfhmopmagaaGreat.Qu
attribute [local go_sem] Oper.semAt_some run_store_float Lx.opX Rel.oneOk
attribute [local irreducible] Lx.wpX

/-- whether a configuration may be, or why not -/
def leavesB (l : List Cls) (fs : List F) : Bool := (sortK ordK fs).all (fun f => leafB l f.leaf)
noncomputable def chkC (t r d : Int) (l : List Cls) (fs : List F) : Int :=
  if t < 1 ∨ 1048576 < t then 2 else if r < 0 ∨ 2 < r then 7 else if chk l ≠ 0 then chk l else if quotaB l = false then 13
  else if checkF fs ≠ 0 then checkF fs else if leavesB l fs = false then 15 else if leafB l d = false then 15 else 0
/-- a set lies at S, all of it below B -/
def SetAt (w : World) (B S : Nat) (t r d : Int) (l : List Cls) (fs : List F) : Prop := ∃ (T Tb q : Nat) (A1 : Option Addr) (c1 : Nat) (A2 : Option Addr) (c2 : Nat), S < B ∧
  w.heap[S]? = some (.cells #[.pointer (some ⟨T, 0, none⟩), .pointer (some ⟨Tb, 0, none⟩), .pointer (some ⟨q, 0, none⟩), .int .i64 t, .int .i64 r, .int .i64 d, .slice A1 l.length c1, .slice A2 fs.length c2] 115 (0, 0)) ∧
  TreeAt w B T l ∧ TableAt w B Tb fs ∧ QuotaAt w B q l t ∧ Holds B w (.slice A1 l.length c1) (sortC l) ∧ HoldsF B w (.slice A2 fs.length c2) (sortK F.id fs)
theorem SetAt.below {w w' : World} {B S : Nat} {t r d : Int} {l : List Cls} {fs : List F} (hb : Below B w w') (h : SetAt w B S t r d l fs) : SetAt w' B S t r d l fs := by
  obtain ⟨T, Tb, q, A1, c1, A2, c2, hS, h1, h2, h3, h4, h5, h6⟩ := h
  exact ⟨T, Tb, q, A1, c1, A2, c2, hS, (hb.block _ hS).trans h1, h2.below hb, h3.below hb, h4.below hb, Holds.below hb h5, Lies.below hb h6⟩
theorem SetAt.up {w : World} {B B' S : Nat} {t r d : Int} {l : List Cls} {fs : List F} (hB : B ≤ B') (h : SetAt w B S t r d l fs) : SetAt w B' S t r d l fs := by
  obtain ⟨T, Tb, q, A1, c1, A2, c2, hS, h1, h2, h3, h4, h5, h6⟩ := h
  exact ⟨T, Tb, q, A1, c1, A2, c2, by omega, h1, h2.up hB, h3.up hB, h4.up hB, Holds.up hB h5, Lies.up hB h6⟩
def CompCOk (t r d : Int) (l : List Cls) (fs : List F) (w : World) (e : Ending) (w' : World) : Prop :=
  (chkC t r d l fs ≠ 0 ∧ e = .returned (.tuple #[.pointer none, .int .i64 (chkC t r d l fs)]) ∧ Below w.heap.size w w') ∨
  (chkC t r d l fs = 0 ∧ ∃ S, e = .returned (.tuple #[.pointer (some ⟨S, 0, none⟩), .int .i64 0]) ∧ SetAt w' w'.heap.size S t r d l fs ∧ w.heap.size ≤ S ∧ Below w.heap.size w w')
theorem no_tpb {t r d : Int} {l : List Cls} {fs : List F} (h : t < 1 ∨ 1048576 < t) : chkC t r d l fs = 2 := if_pos h
theorem no_rule {t r d : Int} {l : List Cls} {fs : List F} (h0 : ¬ (t < 1 ∨ 1048576 < t)) (h : r < 0 ∨ 2 < r) : chkC t r d l fs = 7 := by unfold chkC; rw [if_neg h0, if_pos h]
theorem no_tree {t r d : Int} {l : List Cls} {fs : List F} (h0 : ¬ (t < 1 ∨ 1048576 < t)) (h1 : ¬ (r < 0 ∨ 2 < r)) (h : chk l ≠ 0) : chkC t r d l fs = chk l := by unfold chkC; rw [if_neg h0, if_neg h1, if_pos h]
theorem no_quota {t r d : Int} {l : List Cls} {fs : List F} (h0 : ¬ (t < 1 ∨ 1048576 < t)) (h1 : ¬ (r < 0 ∨ 2 < r)) (h2 : chk l = 0) (h : quotaB l = false) : chkC t r d l fs = 13 := by unfold chkC; rw [if_neg h0, if_neg h1, if_neg (by simpa using h2), if_pos h]
theorem chk_rest {t r d : Int} {l : List Cls} {fs : List F} (h0 : ¬ (t < 1 ∨ 1048576 < t)) (h1 : ¬ (r < 0 ∨ 2 < r)) (h2 : chk l = 0) (h3 : quotaB l = true) : chkC t r d l fs = if checkF fs ≠ 0 then checkF fs else if leavesB l fs = false then 15 else if leafB l d = false then 15 else 0 := by unfold chkC; rw [if_neg h0, if_neg h1, if_neg (by simpa using h2), if_neg (by rw [h3]; decide)]
/-- the boxes of a call: the configuration, the two results -/
structure CBx (u : World) (g : Nat) (t r d : Int) (sa sb : Value) : Prop where
  b1 : u.heap[g]? = some (.cells #[.int .i64 t, .int .i64 r, .int .i64 d, sa, sb] 25 (0, 0))
  b2 : u.heap[g + 1]? = some (.cells #[.pointer none] 34 (0, 0))
  b3 : u.heap[g + 2]? = some (.cells #[.int .i64 0] 35 (0, 0))
theorem CBx.below {u u' : World} {g B : Nat} {t r d : Int} {sa sb : Value} (h : CBx u g t r d sa sb) (hb : Below B u u') (hg : g + 2 < B) : CBx u' g t r d sa sb :=
  ⟨(hb.block _ (by omega)).trans h.b1, (hb.block _ (by omega)).trans h.b2, (hb.block _ (by omega)).trans h.b3⟩
theorem cbx_new (w : World) (t r d : Int) (sa sb : Value) : CBx (((w.alloc (.cells #[.int .i64 t, .int .i64 r, .int .i64 d, sa, sb] 25)).alloc (.cells #[.pointer none] 34)).alloc (.cells #[.int .i64 0] 35)) w.heap.size t r d sa sb :=
  ⟨(Below.heap_alloc _ _ _ (by simp; omega)).trans ((Below.heap_alloc _ _ _ (by simp)).trans (heap_alloc_new _ _)),
   (Below.heap_alloc _ _ _ (by simp)).trans (by have := heap_alloc_new (w.alloc (.cells #[.int .i64 t, .int .i64 r, .int .i64 d, sa, sb] 25)) (.cells #[.pointer none] 34); simpa using this),
   by have := heap_alloc_new ((w.alloc (.cells #[.int .i64 t, .int .i64 r, .int .i64 d, sa, sb] 25)).alloc (.cells #[.pointer none] 34)) (.cells #[.int .i64 0] 35); simpa using this⟩
theorem cbx_b (w : World) (o1 o2 o3 : Obj) : Below w.heap.size w (((w.alloc o1).alloc o2).alloc o3) := (((Below.refl _ w).alloc (Nat.le_refl _) _).alloc (by simp) _).alloc (by simp; omega) _
/-- the two results, once they are stored -/
theorem two_cells {u : World} {g : Nat} {t r d : Int} {sa sb : Value} (h : CBx u g t r d sa sb) (p e : Value) :
    ((u.setCell ⟨g + 1, 0, none⟩ p).setCell ⟨g + 2, 0, none⟩ e).cell? ⟨g + 1, 0, none⟩ = some p ∧ ((u.setCell ⟨g + 1, 0, none⟩ p).setCell ⟨g + 2, 0, none⟩ e).cell? ⟨g + 2, 0, none⟩ = some e := by
  have h1 := set_cells h.b2 0 p
  have h2 := (Below.heap_setCell u ⟨g + 1, 0, none⟩ p (g + 2) (by simp)).trans h.b3
  have h3 := set_cells h2 0 e
  have h4 := (Below.heap_setCell (u.setCell ⟨g + 1, 0, none⟩ p) ⟨g + 2, 0, none⟩ e (g + 1) (by simp)).trans h1
  exact ⟨cells_at h4 0 p (by simp), cells_at h3 0 e (by simp)⟩
theorem noop {w : World} {g : Nat} {v : Value} {t : TypeId} (h : w.heap[g]? = some (.cells #[v] t (0, 0))) (B : Nat) : Below B w (w.setCell ⟨g, 0, none⟩ v) := by
  refine ⟨rfl, rfl, rfl, by simp [World.setCell], fun q _ => ?_⟩
  by_cases e : q = g
  · subst e; rw [set_cells h 0 v, h]; simp
  · exact Below.heap_setCell _ _ _ _ e
theorem SetAt.ptr {w : World} {g B S : Nat} {t r d : Int} {l : List Cls} {fs : List F} (hg : w.heap[g]? = some (.cells #[.pointer none] 34 (0, 0))) (h : SetAt w B S t r d l fs) (v : Value) : SetAt (w.setCell ⟨g, 0, none⟩ v) B S t r d l fs := by
  obtain ⟨T, Tb, q, A1, c1, A2, c2, hS, h1, h2, h3, h4, h5, h6⟩ := h
  exact ⟨T, Tb, q, A1, c1, A2, c2, hS, cells_ptr hg h1 (by decide) v, tree_ptr hg h2 v, table_ptr hg h3 v, quota_ptr hg h4 v, cls_ptr hg h5 v, fil_ptr hg h6 v⟩
theorem err_end {n : Nat} {t r d : Int} {l : List Cls} {fs : List F} {w u : World} {tm : Array Value} {sa sb : Value} {e : Int} (h : CBx u w.heap.size t r d sa sb) (hb : Below w.heap.size w u) (he : chkC t r d l fs = e) (hne : e ≠ 0)
    (h2 : tm[2]? = some (.pointer (some ⟨w.heap.size + 1, 0, none⟩))) (h3 : tm[3]? = some (.pointer (some ⟨w.heap.size + 2, 0, none⟩))) :
    bodyPostM Fence.wide n Tryz.prog Tryz.f18 (CompCOk t r d l fs w) .ret { tmps := tm, defers := [] } ((u.setCell ⟨w.heap.size + 1, 0, none⟩ (.pointer none)).setCell ⟨w.heap.size + 2, 0, none⟩ (.int .i64 e)) := by
  obtain ⟨q1, q2⟩ := two_cells h (.pointer none) (.int .i64 e)
  refine ⟨.tuple #[.pointer none, .int .i64 e], ?_, .inl ⟨by rw [he]; exact hne, by rw [he], (hb.setCell (p := ⟨w.heap.size + 1, 0, none⟩) (by simp) _).setCell (p := ⟨w.heap.size + 2, 0, none⟩) (by simp) _⟩⟩
  simp [results, Tryz.f18, go_sem, h2, h3, q1, q2]
theorem end_D {n : Nat} {w u : World} {D : Nat} {tm : Array Value} {p : Value} {e : Int} {R : Ending → World → Prop}
    (h2 : tm[2]? = some (.pointer (some ⟨w.heap.size + 1, 0, none⟩))) (h3 : tm[3]? = some (.pointer (some ⟨w.heap.size + 2, 0, none⟩)))
    (q1 : u.cell? ⟨w.heap.size + 1, 0, none⟩ = some p) (q2 : u.cell? ⟨w.heap.size + 2, 0, none⟩ = some (.int .i64 e)) (hK : u.heap[D]? = some (.deferred (some []))) (hp : p.oneCell' = true)
    (hR : R (.returned (.tuple #[p, .int .i64 e])) (u.putObj D (.deferred none))) :
    bodyPostM Fence.wide n Tryz.prog Tryz.f18 R .ret { tmps := tm, defers := [{ target := .collected D, args := #[] }] } u := by
  refine ⟨by simp, .inl ⟨_, _, rfl, run_takeDeferred hK, ?_⟩⟩
  have c1 := Go.cell_kept q1 (grownBy_putObj' _ D (.deferred none)) (fun r e => by cases e; exact ⟨_, hK, rfl⟩)
  have c2 := Go.cell_kept q2 (grownBy_putObj' _ D (.deferred none)) (fun r e => by cases e; exact ⟨_, hK, rfl⟩)
  refine ⟨.tuple #[p, .int .i64 e], ?_, hR⟩
  simp [results, Tryz.f18, go_sem, h2, h3, c1, c2]
theorem checkF_le {fs : List F} (h : checkF fs = 0) : fs.length ≤ 64 := by
  by_cases h2 : 64 < fs.length
  · rw [checkF_far h2] at h; cases h
  · omega
set_option maxRecDepth 20000 in
set_option maxHeartbeats 4000000 in
theorem compile_in (n : Nat) (hn : 6 ≤ n) (t r d : Int) (hdw : (Lit.int .i64 d).wf = true) (A : Option Addr) (na ca : Nat) (B : Option Addr) (mb cb : Nat) (l : List Cls) (fs : List F) (hs : ∀ x ∈ l, x.share < 18446744073709551616) (hl : l.length ≤ 1048576) (hf : fs.length ≤ 1048576) (hcap : na ≤ ca) (w : World) (hI : Holds w.heap.size w (.slice A na ca) l) (hF : HoldsF w.heap.size w (.slice B mb cb) fs) :
    CallsIn Fence.wide n Tryz.prog 18 #[cfV t r d (.slice A na ca) (.slice B mb cb)] w (CompCOk t r d l fs w) := by
  have h1' : 1 ≤ n := by omega
  have HI := Lib.hid hI; have HF := Lib.hid hF; have HS := Lib.hid hs
  clear hI hF hs
  have HU0 := Lib.hid (cbx_new w t r d (.slice A na ca) (.slice B mb cb))
  have HUb0 := Lib.hid (cbx_b w (.cells #[.int .i64 t, .int .i64 r, .int .i64 d, .slice A na ca, .slice B mb cb] 25) (.cells #[.pointer none] 34) (.cells #[.int .i64 0] 35))
  have HUs0 : Hid ((((w.alloc (.cells #[.int .i64 t, .int .i64 r, .int .i64 d, .slice A na ca, .slice B mb cb] 25)).alloc (.cells #[.pointer none] 34)).alloc (.cells #[.int .i64 0] 35)).heap.size = w.heap.size + 3) := Lib.hid (by simp)
  refine callsIn_of_wp_marks Tryz.func18 rfl trivial ?_ rfl
  simp only [Tryz.ntmps18, List.size_toArray, List.length_cons, List.length_nil, Nat.reduceAdd, Nat.reduceSub, Array.replicate_succ, Array.replicate_zero, List.push_toArray, List.append_toArray, List.nil_append, List.cons_append]
  gi_upto_region 1 with fail
  have e2 : w.heap.size + 1 + 1 = w.heap.size + 2 := rfl
  rw [e2]
  clear e2
  generalize World.alloc (World.alloc (World.alloc w _) _) _ = U at *
  have x0 := cells_at HU0.out.b1 0 (.int .i64 t) rfl; have x1 := cells_at HU0.out.b1 1 (.int .i64 r) rfl; have x2 := cells_at HU0.out.b1 2 (.int .i64 d) rfl; have x3 := cells_at HU0.out.b1 3 (.slice A na ca) rfl; have x4 := cells_at HU0.out.b1 4 (.slice B mb cb) rfl
  have y2 := cells_at HU0.out.b2 0 (.pointer none) rfl; have y3 := cells_at HU0.out.b3 0 (.int .i64 0) rfl
  have z2 := frozen_at' HU0.out.b2 0; have z3 := frozen_at' HU0.out.b3 0
  have hz := HUs0.out
  by_cases ht : t < 1 ∨ 1048576 < t
  · have HC := Lib.hid (no_tpb (r := r) (d := d) (l := l) (fs := fs) ht)
    rcases ht with ht | ht
    · gi_wp2_with fail
      exact err_end HU0.out HUb0.out HC.out (by decide) (by rfl) (by rfl)
    · have ht2 : ¬ t < 1 := by omega
      gi_wp2_with fail
      exact err_end HU0.out HUb0.out HC.out (by decide) (by rfl) (by rfl)
  by_cases hr : r < 0 ∨ 2 < r
  · have HC := Lib.hid (no_rule (d := d) (l := l) (fs := fs) ht hr)
    have ht1 : ¬ t < 1 := by omega
    have ht2 : ¬ 1048576 < t := by omega
    clear ht
    rcases hr with hr | hr
    · gi_wp2_with fail
      exact err_end HU0.out HUb0.out HC.out (by decide) (by rfl) (by rfl)
    · have hr2 : ¬ r < 0 := by omega
      gi_wp2_with fail
      exact err_end HU0.out HUb0.out HC.out (by decide) (by rfl) (by rfl)
  have HT := Lib.hid ht; have HR := Lib.hid hr
  have ht1 : ¬ t < 1 := by omega
  have ht2 : ¬ 1048576 < t := by omega
  have hr1 : ¬ r < 0 := by omega
  have hr2 : ¬ 2 < r := by omega
  clear ht hr
  have HIU := Lib.hid ((HI.out.below HUb0.out).up HUb0.out.size)
  have HCT := Lib.hid (compile_c A na ca l HS.out hl hcap U HIU.out)
  unfold CompOk at HCT
  by_cases hch : chk l = 0
  rotate_left
  · have HC := Lib.hid (no_tree (d := d) (fs := fs) HT.out HR.out hch)
    have hrb : (chk l == 0) = false := by rw [beq_eq_false_iff_ne]; exact hch
    have hrn : (chk l != 0) = true := by rw [bne_iff_ne]; exact hch
    have HRN := Lib.hid hch
    clear hch
    generalize hrx : chk l = rx at *
    clear hrx
    gi_wp2_with (refine ⟨trivial, ?_⟩; gi_at_call 57; refine (callsIn_wide.2 HCT.out).mono ?_; rintro e w1 (⟨_, rfl, hb1⟩ | ⟨h0, _⟩); rotate_left; exact absurd h0 HRN.out; have hx1 := HU0.out.below hb1 (by omega); have hb2 := HUb0.out.trans (hb1.mono HUb0.out.size); have HX1 := Lib.hid hx1; have HB1 := Lib.hid hb2; have q2 := cells_at hx1.b2 0 (.pointer none) rfl; have q3 := cells_at hx1.b3 0 (.int .i64 0) rfl; have v2 := frozen_at' hx1.b2 0; have v3 := frozen_at' hx1.b3 0; clear hx1 hb1 hb2)
    exact err_end HX1.out HB1.out HC.out HRN.out (by rfl) (by rfl)
  have R := chk_tree hch
  have HRT := Lib.hid R; have HCH := Lib.hid hch
  clear hch R
  gi_upto_region 8 with (refine ⟨trivial, ?_⟩; gi_at_call 57; refine (callsIn_wide.2 HCT.out).mono ?_; rintro e w1 (⟨h0, _⟩ | ⟨_, T, rfl, hT, hle, hb1⟩); exact absurd HCH.out h0; have hx1 := HU0.out.below hb1 (by omega); have hb2 := HUb0.out.trans (hb1.mono HUb0.out.size); have HX1 := Lib.hid hx1; have HB1 := Lib.hid hb2; have HT1 := Lib.hid hT; have hs1 := hb1.size; clear hx1 hb1 hb2 hT hle)
  clear x0 x1 x2 x3 x4 y2 y3 z2 z3 HU0 HUb0 HUs0 HIU HCT
  have hn1 : w.heap.size + 2 < w1.heap.size := by omega
  clear hs1 hz
  have HQN := Lib.hid (newq_c T l HRT.out HS.out t w1 HT1.out)
  unfold QNewOk at HQN
  have x0 := cells_at HX1.out.b1 0 (.int .i64 t) rfl
  cases hqb : quotaB l with
  | false =>
    have HC := Lib.hid (no_quota (d := d) (fs := fs) HT.out HR.out HCH.out hqb)
    have HQB := Lib.hid hqb
    clear hqb
    gi_wp2_with (refine ⟨trivial, ?_⟩; gi_at_call 58; refine (callsIn_wide.2 HQN.out).mono ?_; rintro e w2 (⟨_, rfl, hb1⟩ | ⟨h0, _⟩ | ⟨h0, _⟩); rotate_left; exact absurd (HQB.out.symm.trans h0) (by decide); exact absurd (HQB.out.symm.trans h0) (by decide); have hx1 := HX1.out.below hb1 hn1; have hb2 := HB1.out.trans (hb1.mono HB1.out.size); have HX2 := Lib.hid hx1; have HB2 := Lib.hid hb2; have q2 := cells_at hx1.b2 0 (.pointer none) rfl; have q3 := cells_at hx1.b3 0 (.int .i64 0) rfl; have v2 := frozen_at' hx1.b2 0; have v3 := frozen_at' hx1.b3 0; clear hx1 hb1 hb2)
    exact err_end HX2.out HB2.out HC.out (by decide) (by rfl) (by rfl)
  | true =>
    have HQB := Lib.hid hqb
    have HTB : Hid (tpbB t = true) := Lib.hid (by unfold tpbB; simp; omega)
    have HCR := Lib.hid (chk_rest (d := d) (fs := fs) HT.out HR.out HCH.out hqb)
    clear hqb
    gi_upto_region 11 with (refine ⟨trivial, ?_⟩; gi_at_call 58; refine (callsIn_wide.2 HQN.out).mono ?_; rintro e w2 (⟨h0, _⟩ | ⟨_, h0, _⟩ | ⟨_, _, q, rfl, hQ, hle, hb1⟩); exact absurd (HQB.out.symm.trans h0) (by decide); exact absurd (HTB.out.symm.trans h0) (by decide); have hx1 := HX1.out.below hb1 hn1; have hb2 := HB1.out.trans (hb1.mono HB1.out.size); have HX2 := Lib.hid hx1; have HB2 := Lib.hid hb2; have HT2 := Lib.hid ((HT1.out.below hb1).up hb1.size); have HQ2 := Lib.hid hQ; have hs2 := hb1.size; clear hx1 hb1 hb2 hQ hle)
    have hn2 : w.heap.size + 2 < w2.heap.size := by omega
    clear hs2 hn1 x0 HX1 HB1 HT1 HQN
    have HFN := Lib.hid (newf_c B mb cb fs hf w2 (Lies.up HB2.out.size (Lies.below HB2.out HF.out)))
    unfold FNewOk at HFN
    have x4 := cells_at HX2.out.b1 4 (.slice B mb cb) rfl
    by_cases hcf : checkF fs = 0
    rotate_left
    · have HC := Lib.hid (HCR.out.trans (if_pos hcf))
      have hrb : (checkF fs == 0) = false := by rw [beq_eq_false_iff_ne]; exact hcf
      have hrn : (checkF fs != 0) = true := by rw [bne_iff_ne]; exact hcf
      have HRN := Lib.hid hcf
      clear hcf HCR
      generalize hrx : checkF fs = rx at *
      clear hrx
      gi_wp2_with (refine ⟨trivial, ?_⟩; gi_at_call 59; refine (callsIn_wide.2 HFN.out).mono ?_; rintro e w3 (⟨_, rfl, hb1⟩ | ⟨h0, _⟩); rotate_left; exact absurd h0 HRN.out; have hx1 := HX2.out.below hb1 hn2; have hb2 := HB2.out.trans (hb1.mono HB2.out.size); have HX3 := Lib.hid hx1; have HB3 := Lib.hid hb2; have q2 := cells_at hx1.b2 0 (.pointer none) rfl; have q3 := cells_at hx1.b3 0 (.int .i64 0) rfl; have v2 := frozen_at' hx1.b2 0; have v3 := frozen_at' hx1.b3 0; clear hx1 hb1 hb2)
      exact err_end HX3.out HB3.out HC.out HRN.out (by rfl) (by rfl)
    have HCF := Lib.hid hcf
    have HCR2 := Lib.hid (HCR.out.trans (if_neg (by simpa using hcf)))
    clear hcf HCR
    gi_upto_region 14 with (refine ⟨trivial, ?_⟩; gi_at_call 59; refine (callsIn_wide.2 HFN.out).mono ?_; rintro e w3 (⟨h0, _⟩ | ⟨_, Tb, rfl, hF3, hle, hb1⟩); exact absurd HCF.out h0; have hx1 := HX2.out.below hb1 hn2; have hb2 := HB2.out.trans (hb1.mono HB2.out.size); have HX3 := Lib.hid hx1; have HB3 := Lib.hid hb2; have HT3 := Lib.hid ((HT2.out.below hb1).up hb1.size); have HQ3 := Lib.hid ((HQ2.out.below hb1).up hb1.size); have HF3 := Lib.hid hF3; have hs3 := hb1.size; clear hx1 hb1 hb2 hF3 hle)
    have hn3 : w.heap.size + 2 < w3.heap.size := by omega
    clear hs3 hn2 x4 HX2 HB2 HT2 HQ2 HFN
    have HCN := Lib.hid (canon_c t r d A na ca B mb cb l fs hl hf w3 ((HI.out.below HB3.out).up HB3.out.size) (Lies.up HB3.out.size (Lies.below HB3.out HF.out)))
    unfold CanonOk cfV at HCN
    have x0 := cells_at HX3.out.b1 0 (.int .i64 t) rfl; have x1 := cells_at HX3.out.b1 1 (.int .i64 r) rfl; have x2 := cells_at HX3.out.b1 2 (.int .i64 d) rfl; have x3 := cells_at HX3.out.b1 3 (.slice A na ca) rfl; have x4 := cells_at HX3.out.b1 4 (.slice B mb cb) rfl
    gi_upto_region 15 with (refine ⟨trivial, ?_⟩; gi_at_call 49; refine (callsIn_wide.2 HCN.out).mono ?_; rintro e w4 ⟨A1, c1, A2, c2, rfl, hc1, hc2, hb1⟩; have hx1 := HX3.out.below hb1 hn3; have hb2 := HB3.out.trans (hb1.mono HB3.out.size); have HX4 := Lib.hid hx1; have HB4 := Lib.hid hb2; have HT4 := Lib.hid ((HT3.out.below hb1).up hb1.size); have HQ4 := Lib.hid ((HQ3.out.below hb1).up hb1.size); have HF4 := Lib.hid ((HF3.out.below hb1).up hb1.size); have HC4 := Lib.hid hc1; have HD4 := Lib.hid hc2; have hs4 := hb1.size; clear hx1 hb1 hb2 hc1 hc2)
    have hn4 : w.heap.size + 2 < w4.heap.size := by omega
    clear hs4 hn3 x0 x1 x2 x3 x4 HX3 HB3 HT3 HQ3 HF3 HCN
    have hbu := ((Below.refl w4.heap.size w4).alloc (Nat.le_refl _) (.cells #[.pointer (some ⟨T, 0, none⟩), .pointer (some ⟨Tb, 0, none⟩), .pointer (some ⟨q, 0, none⟩), .int .i64 t, .int .i64 r, .int .i64 d, .slice A1 l.length c1, .slice A2 fs.length c2] 115)).alloc (by simp) (.cells #[.pointer (some ⟨w4.heap.size, 0, none⟩)] 34)
    have hu1 : ((w4.alloc (.cells #[.pointer (some ⟨T, 0, none⟩), .pointer (some ⟨Tb, 0, none⟩), .pointer (some ⟨q, 0, none⟩), .int .i64 t, .int .i64 r, .int .i64 d, .slice A1 l.length c1, .slice A2 fs.length c2] 115)).alloc (.cells #[.pointer (some ⟨w4.heap.size, 0, none⟩)] 34)).heap[w4.heap.size]? = some (.cells #[.pointer (some ⟨T, 0, none⟩), .pointer (some ⟨Tb, 0, none⟩), .pointer (some ⟨q, 0, none⟩), .int .i64 t, .int .i64 r, .int .i64 d, .slice A1 l.length c1, .slice A2 fs.length c2] 115 (0, 0)) := (Below.heap_alloc _ _ _ (by simp)).trans (heap_alloc_new _ _)
    have hu2 : ((w4.alloc (.cells #[.pointer (some ⟨T, 0, none⟩), .pointer (some ⟨Tb, 0, none⟩), .pointer (some ⟨q, 0, none⟩), .int .i64 t, .int .i64 r, .int .i64 d, .slice A1 l.length c1, .slice A2 fs.length c2] 115)).alloc (.cells #[.pointer (some ⟨w4.heap.size, 0, none⟩)] 34)).heap[w4.heap.size + 1]? = some (.cells #[.pointer (some ⟨w4.heap.size, 0, none⟩)] 34 (0, 0)) := by
      have := heap_alloc_new (w4.alloc (.cells #[.pointer (some ⟨T, 0, none⟩), .pointer (some ⟨Tb, 0, none⟩), .pointer (some ⟨q, 0, none⟩), .int .i64 t, .int .i64 r, .int .i64 d, .slice A1 l.length c1, .slice A2 fs.length c2] 115)) (.cells #[.pointer (some ⟨w4.heap.size, 0, none⟩)] 34)
      simpa using this
    have hus : ((w4.alloc (.cells #[.pointer (some ⟨T, 0, none⟩), .pointer (some ⟨Tb, 0, none⟩), .pointer (some ⟨q, 0, none⟩), .int .i64 t, .int .i64 r, .int .i64 d, .slice A1 l.length c1, .slice A2 fs.length c2] 115)).alloc (.cells #[.pointer (some ⟨w4.heap.size, 0, none⟩)] 34)).heap.size = w4.heap.size + 2 := by simp
    generalize World.alloc (World.alloc w4 _) _ = u at *
    obtain ⟨S, hS⟩ : ∃ S, S = w4.heap.size := ⟨_, rfl⟩
    have hSET : SetAt u (S + 1) S t r d l fs := ⟨T, Tb, q, A1, c1, A2, c2, by omega, by rw [hS]; exact hu1, (HT4.out.below hbu).up (by omega), (HF4.out.below hbu).up (by omega), (HQ4.out.below hbu).up (by omega), Holds.up (by omega) (Holds.below hbu HC4.out), Lies.up (by omega) (Lies.below hbu HD4.out)⟩
    have hTA : TreeAt u (S + 1) T l := (HT4.out.below hbu).up (by omega)
    have hFA : TableAt u (S + 1) Tb fs := (HF4.out.below hbu).up (by omega)
    have HXu := Lib.hid (HX4.out.below hbu hn4)
    have HBu := Lib.hid (HB4.out.trans (hbu.mono HB4.out.size))
    rw [← hS] at hu1 hu2 hus hn4 ⊢
    have HSET := Lib.hid hSET; have HTA := Lib.hid hTA; have HFA := Lib.hid hFA; have HU1 := Lib.hid hu1; have HU2 := Lib.hid hu2; have HUS := Lib.hid hus
    have hwS : w.heap.size + 2 < S := hn4
    clear hbu hSET hTA hFA hu1 hu2 hus hn4 HX4 HB4 HT4 HQ4 HF4 HC4 HD4 hS
    gi_wp2_with (refine ⟨trivial, ?_⟩; gi_at_call 60; refine (callsIn_wide.2 (all_c _ _)).mono ?_; rintro e w' ⟨rfl, rfl⟩)
    have hW0b := (Below.refl u.heap.size u).alloc (Nat.le_refl _) (.cells #[.pointer (some ⟨Tb, 0, none⟩)] 109)
    have hW0c := heap_alloc_new u (.cells #[.pointer (some ⟨Tb, 0, none⟩)] 109)
    have hW0s : (u.alloc (.cells #[.pointer (some ⟨Tb, 0, none⟩)] 109)).heap.size = u.heap.size + 1 := by simp
    obtain ⟨Bt, hBt⟩ : ∃ Bt, Bt = u.heap.size := ⟨_, rfl⟩
    have hus := HUS.out
    obtain ⟨W0, hW0⟩ : ∃ W0, u.alloc (.cells #[.pointer (some ⟨Tb, 0, none⟩)] 109) = W0 := ⟨_, rfl⟩
    rw [hW0] at hW0b hW0c hW0s ⊢
    clear hW0
    have hSET0 : SetAt W0 (S + 1) S t r d l fs := HSET.out.below (hW0b.mono (by omega))
    have hTA0 : TreeAt W0 (S + 1) T l := HTA.out.below (hW0b.mono (by omega))
    have hFA0 : TableAt W0 (S + 1) Tb fs := HFA.out.below (hW0b.mono (by omega))
    have hX0 := HXu.out.below hW0b (by omega)
    have hB0 := HBu.out.trans (hW0b.mono HBu.out.size)
    have hb8 := (hW0b.block (S + 1) (by omega)).trans HU2.out
    have hbS := (hW0b.block S (by omega)).trans HU1.out
    rw [← hBt] at hW0c hW0s ⊢
    have hBtl : Bt < W0.heap.size := by omega
    have hSl : S + 1 < W0.heap.size := by omega
    clear hW0b hBt hus hW0s
    refine wpIn_rangeFunc_ownH (F := Fence.wide) rfl h1' (gf := 135) (lb := #[.pointer (some ⟨Bt, 0, none⟩)]) rfl trivial (enters_of Tryz.func135 (by kernel_rfl) rfl)
      (all_stops Fence.wide (n - 1) trivial rfl (by omega) Bt W0.heap.size Tb fs (checkF_le HCF.out) W0 (by omega) (Nat.le_refl _) (cells_at hW0c 0 _ rfl) (hFA0.up (by omega))) belowK_t (belowK_b (Nat.le_refl _)) (Below.refl _ _) (fun _ => rfl)
      (fun pre W => (∀ x ∈ pre, leafB l x.leaf = true) ∧ Below W0.heap.size W0 W)
      (fun c pre W => (c = .ret ∧ (∃ x ∈ pre, leafB l x.leaf = false) ∧ Boxed W (w.heap.size + 1) 34 (.pointer none) ∧ Boxed W (w.heap.size + 2) 35 (.int .i64 15)) ∧ Below w.heap.size w W)
      (OwnFrom.and (fun s A B row hs hg hr => hs) (ownFrom_below (Nat.le_refl _) (Nat.le_refl _)))
      (fun c => OwnFrom.and (Own.from (fun s A B row hs hg hr => ⟨hs.1, hs.2.1, boxed_own _ _ (fun _ : Unit => _) () A B row hs.2.2.1 hg hr, boxed_own _ _ (fun _ : Unit => _) () A B row hs.2.2.2 hg hr⟩) _) (ownFrom_below (Nat.le_refl _) hB0.size))
      ⟨by simp, Below.refl _ _⟩
      (fun x a' W => ∃ Bx, W0.heap.size ≤ Bx ∧ Row W Bx 98 x.cells ∧ a' = { tmps := #[cfV t r d (Value.slice A na ca) (Value.slice B mb cb), Value.pointer (some { block := w.heap.size, off := 0 }), Value.pointer (some { block := w.heap.size + 1, off := 0 }), Value.pointer (some { block := w.heap.size + 2, off := 0 }), Value.pointer (some { block := T, off := 0 }), Value.int IntKind.i64 0, Value.pointer (some { block := q, off := 0 }), Value.pointer (some { block := Tb, off := 0 }), Value.pointer (some { block := S + 1, off := 0 }), Value.pointer (some { block := Bx, off := 0 }), Value.bool false, Value.pointer (some { block := w.heap.size, off := 0 }), Value.int IntKind.i64 t, Value.bool false, Value.bool false, Value.pointer (some { block := w.heap.size, off := 0 }), Value.int IntKind.i64 t, Value.bool false, Value.bool false, Value.bool false, Value.pointer (some { block := w.heap.size, off := 1 }), Value.int IntKind.i64 r, Value.bool false, Value.bool false, Value.pointer (some { block := w.heap.size, off := 1 }), Value.int IntKind.i64 r, Value.bool false, Value.bool false, Value.tuple #[Value.pointer (some { block := T, off := 0 }), Value.int IntKind.i64 0], Value.pointer (some { block := w.heap.size, off := 3 }), Value.slice A na ca, Value.tuple #[Value.pointer (some { block := T, off := 0 }), Value.int IntKind.i64 0], Value.pointer (some { block := T, off := 0 }), Value.int IntKind.i64 0, Value.int IntKind.i64 0, Value.bool false, undef, Value.tuple #[Value.pointer (some { block := q, off := 0 }), Value.int IntKind.i64 0], Value.pointer (some { block := T, off := 0 }), Value.pointer (some { block := w.heap.size, off := 0 }), Value.int IntKind.i64 t, Value.tuple #[Value.pointer (some { block := q, off := 0 }), Value.int IntKind.i64 0], Value.pointer (some { block := q, off := 0 }), Value.int IntKind.i64 0, Value.int IntKind.i64 0, Value.bool false, undef, Value.tuple #[Value.pointer (some { block := Tb, off := 0 }), Value.int IntKind.i64 0], Value.pointer (some { block := w.heap.size, off := 4 }), Value.slice B mb cb, Value.tuple #[Value.pointer (some { block := Tb, off := 0 }), Value.int IntKind.i64 0], Value.pointer (some { block := Tb, off := 0 }), Value.int IntKind.i64 0, Value.int IntKind.i64 0, Value.bool false, undef, Value.pointer (some { block := T, off := 0 }), Value.pointer (some { block := Tb, off := 0 }), Value.pointer (some { block := q, off := 0 }), Value.agg #[Value.pointer (some { block := T, off := 0 }), Value.pointer (some { block := Tb, off := 0 }), Value.pointer (some { block := q, off := 0 })], Value.agg #[Value.int IntKind.i64 t, Value.int IntKind.i64 r, Value.int IntKind.i64 d, Value.slice A na ca, Value.slice B mb cb], Value.agg #[Value.int IntKind.i64 t, Value.int IntKind.i64 r, Value.int IntKind.i64 d, Value.slice A1 l.length c1, Value.slice A2 fs.length c2], Value.agg #[Value.pointer (some { block := T, off := 0 }), Value.pointer (some { block := Tb, off := 0 }), Value.pointer (some { block := q, off := 0 }), Value.int IntKind.i64 t, Value.int IntKind.i64 r, Value.int IntKind.i64 d, Value.slice A1 l.length c1, Value.slice A2 fs.length c2], Value.pointer (some { block := S, off := 0 }), Value.pointer (some { block := Tb, off := 0 }), Value.func (Fn.func 135) #[] #[Value.pointer (some { block := Bt, off := 0 })], x.agg, undef, undef, undef, undef, undef, undef, undef, undef, undef, undef, undef, undef, undef, undef, undef, undef, undef, undef, undef], defers := [] })
      (fun x a' _ X Y row hs hg hr => by obtain ⟨Bx, h1, h2, h3⟩ := hs; exact ⟨Bx, h1, row_own Bx _ (fun (_ : Unit) => x.cells) () X Y row h2 hg (fun r e => (hr r e).2), h3⟩)
      ?assign ?body ?done ?stop
    case assign =>
      rintro k pre x W K ⟨hall, hB1⟩ hK
      gi_wp2
      obtain ⟨Bx, hBx⟩ : ∃ Bx, Bx = W.heap.size := ⟨_, rfl⟩
      rw [← hBx]
      exact hK _ _ ((KeepsOthers.alloc _ _).from _) ((Below.refl _ W).alloc hB1.size _) ⟨hall, hB1.alloc hB1.size _⟩ ⟨Bx, by rw [hBx]; exact hB1.size, by rw [hBx]; exact row_new W _ x.cells, rfl⟩
    case body =>
      rintro k pre x a' W hl ⟨rr, hrr⟩ ⟨hall, hB⟩ ⟨Bx, hBx, bX, rfl⟩ hlt
      have hBs := hB.size
      have cx : W.cell? ⟨Bx, 14, none⟩ = some (.int .i64 x.leaf) := bX.cell 14
      have c8 := cells_at ((hB.block (S + 1) hSl).trans hb8) 0 (.pointer (some ⟨S, 0, none⟩)) rfl
      have cS := cells_at ((hB.block S (by omega)).trans hbS) 0 (.pointer (some ⟨T, 0, none⟩)) rfl
      have hxw : (Lit.int .i64 x.leaf).wf = true := WalkArith.wf_i64 (by have := x.ok; unfold InI at this; omega)
      have HLF := Lib.hid (fun (u : World) (hu : Below W.heap.size W u) => tleaf_c T l x.leaf hxw u (((hTA0.below ((hB.mono (by omega)).trans (hu.mono (by omega)))).up (by have := hu.size; omega))))
      have HD0 := Lib.hid ((Below.refl W.heap.size W).drew)
      obtain ⟨qb, hqb⟩ : ∃ b, b = leafB l x.leaf := ⟨_, rfl⟩
      rw [← hqb] at HLF
      have HLB := Lib.hid hqb
      have HX0 := Lib.hid (hX0.below hB (by omega)); have HBL := Lib.hid hB; have HALL := Lib.hid hall
      have hn0 : w.heap.size + 2 < W.heap.size := by omega
      clear hqb
      gi_upto_region 17 with fail
      have hSW : ∀ q, (q = S + 1 ∨ q = S ∨ q = Bx) → q < W.heap.size := fun q hq => by rcases hq with e | e | e; omega; omega; rw [e]; exact bX.lt
      have HSW := Lib.hid hSW
      clear hSW
      refine Lx.wpIn_round_X 8 (fun w' => ∃ z, w' = Lx.kept (fun q => q = S + 1 ∨ q = S ∨ q = Bx) W.drew z) (fun i => i == 7) (by kernel_rfl) (by kernel_rfl) (fun ⟨_, _, h⟩ => h) (Lx.kept_of (Lx.Keeps.refl _ _)) ?_
      simp only [List.take_succ_cons, List.take_zero, List.drop_succ_cons, List.drop_zero]
      repeat (refine Lx.wpX_step (fun K hK => ?_); first | (refine Lx.opX_free (by rfl) (by rfl) (by rfl) ?_; go_big_quiet_op; refine hK _ _ ?_; clear hK K) | (refine Lx.opX_nil (by rfl) (by rfl) (by rfl) (by rfl) ?_; refine hK _ _ ?_; clear hK K; simp only [Act.put, List.setIfInBounds_toArray, List.set_cons_succ, List.set_cons_zero]))
      refine Lx.wpX_step (fun K hK => ?_)
      refine Lx.opX_law (by rfl) (by rfl) ?_
      go_wp2_with (go_at_call 61; (with_reducible refine (HLF.out _ HD0.out).mono ?_); rintro e W1 ⟨rfl, hb1⟩; have hbk := HD0.out.trans hb1; have HB1 := Lib.hid hbk; have HX1 := Lib.hid (HX0.out.below hbk hn0); clear hb1 hbk)
      refine Lx.nq_mk (Lx.kept_of (fun g hg => HB1.out.block g (HSW.out g hg))) (hK _ _ ?_)
      clear hK K
      refine Lx.wpX_nil ?_
      go_wp2_with fail
      all_goals
        clear HLF cx c8 cS hxw
        cases qb with
        | true =>
          gi_wp2
          exact ⟨(Pa.keeps_below HB1.out).from _, HB1.out.mono hBs, fun y hy => (List.mem_append.1 hy).elim (HALL.out y) (fun e => by simp at e; subst e; exact HLB.out.symm), HBL.out.trans (HB1.out.mono hBs)⟩
        | false =>
          have q2 := cells_at HX1.out.b2 0 (.pointer none) rfl; have q3 := cells_at HX1.out.b3 0 (.int .i64 0) rfl
          have v2 := frozen_at' HX1.out.b2 0; have v3 := frozen_at' HX1.out.b3 0
          gi_wp2
          refine ⟨(((Pa.keeps_below HB1.out).trans (KeepsOthers.setCell _ _ _)).trans (KeepsOthers.setCell _ _ _)).from _, ⟨rfl, ⟨x, by simp, HLB.out.symm⟩, Boxed.other (Boxed.set _ HX1.out.b2) (by omega) _, Boxed.set (v := .int .i64 0) _ (Boxed.other (B' := w.heap.size + 1) HX1.out.b3 (by omega) _)⟩, ?_⟩
          exact ((hB0.trans ((HBL.out.trans (HB1.out.mono hBs)).mono hB0.size)).setCell (p := ⟨w.heap.size + 1, 0, none⟩) (by simp) _).setCell (p := ⟨w.heap.size + 2, 0, none⟩) (by simp) _
    case done =>
      rintro D ys W hD rfl ⟨hall, hB⟩ hK
      have hlv : leavesB l fs = true := by unfold leavesB; exact List.all_eq_true.2 hall
      have HCR3 := Lib.hid (HCR2.out.trans (if_neg (by rw [hlv]; decide)))
      have hBs := hB.size
      have hDl : D < W.heap.size := (Array.getElem?_eq_some_iff.1 hK).1
      have HK := Lib.hid hK; have HBL := Lib.hid hB; have HX0 := Lib.hid (hX0.below hB (by omega))
      have hn0 : w.heap.size + 2 < W.heap.size := by omega
      have x2 := cells_at HX0.out.b1 2 (.int .i64 d) rfl
      have c8 := cells_at ((hB.block (S + 1) hSl).trans hb8) 0 (.pointer (some ⟨S, 0, none⟩)) rfl
      have cS := cells_at ((hB.block S (by omega)).trans hbS) 0 (.pointer (some ⟨T, 0, none⟩)) rfl
      have HLD := Lib.hid (fun (u : World) (hu : Below W.heap.size W u) => tleaf_c T l d hdw u (((hTA0.below ((hB.mono (by omega)).trans (hu.mono (by omega)))).up (by have := hu.size; omega))))
      have HD0 := Lib.hid ((Below.refl W.heap.size W).drew)
      have HB8 := Lib.hid ((hB.block (S + 1) hSl).trans hb8)
      obtain ⟨qb, hqb⟩ : ∃ b, b = leafB l d := ⟨_, rfl⟩
      rw [← hqb] at HLD HCR3
      clear hqb
      gi_upto_region 19 with fail
      have hSW : ∀ q, (q = S + 1 ∨ q = S ∨ q = w.heap.size) → q < W.heap.size := fun q hq => by rcases hq with e | e | e <;> omega
      have HSW := Lib.hid hSW
      clear hSW
      refine wpIn_wide.2 ?_
      refine Lx.wp_region_X 8 (fun w' => ∃ z, w' = Lx.kept (fun q => q = S + 1 ∨ q = S ∨ q = w.heap.size) W.drew z) (fun i => i == 7) (by kernel_rfl) (by kernel_rfl) (Lx.kept_of (Lx.Keeps.refl _ _)) ?_
      simp only [List.take_succ_cons, List.take_zero, List.drop_succ_cons, List.drop_zero]
      repeat (refine Lx.wpX_step (fun K hK => ?_); first | (refine Lx.opX_free (by rfl) (by rfl) (by rfl) ?_; go_big_quiet_op; refine hK _ _ ?_; clear hK K) | (refine Lx.opX_nil (by rfl) (by rfl) (by rfl) (by rfl) ?_; refine hK _ _ ?_; clear hK K; simp only [Act.put, List.setIfInBounds_toArray, List.set_cons_succ, List.set_cons_zero]))
      refine Lx.wpX_step (fun K hK => ?_)
      refine Lx.opX_law (by rfl) (by rfl) ?_
      go_wp2_with (go_at_call 61; (with_reducible refine (HLD.out _ HD0.out).mono ?_); rintro e W1 ⟨rfl, hb1⟩; have hbk := HD0.out.trans hb1; have HB1 := Lib.hid hbk; have HX1 := Lib.hid (HX0.out.below hbk hn0); clear hb1 hbk)
      refine Lx.nq_mk (Lx.kept_of (fun g hg => HB1.out.block g (HSW.out g hg))) (hK _ _ ?_)
      clear hK K
      refine Lx.wpX_nil ?_
      go_wp2_with fail
      all_goals
        clear HLD cS x2 c8
        have hw1 := HB1.out.size
        have hDK := ((((Pa.keeps_below HB1.out).trans (KeepsOthers.setCell W1 ⟨w.heap.size + 1, 0, none⟩ (.pointer (some ⟨S, 0, none⟩)))).trans (KeepsOthers.setCell _ ⟨w.heap.size + 2, 0, none⟩ (.int .i64 0)))).same D _ HK.out rfl
        have hDK2 := ((((Pa.keeps_below HB1.out).trans (KeepsOthers.setCell W1 ⟨w.heap.size + 1, 0, none⟩ (.pointer none))).trans (KeepsOthers.setCell _ ⟨w.heap.size + 2, 0, none⟩ (.int .i64 15)))).same D _ HK.out rfl
        have HDK := Lib.hid hDK; have HDK2 := Lib.hid hDK2
        have hBW : Below w.heap.size w W1 := hB0.trans ((HBL.out.trans (HB1.out.mono hBs)).mono hB0.size)
        have HBW := Lib.hid hBW
        have q2 := cells_at HX1.out.b2 0 (.pointer none) rfl; have q3 := cells_at HX1.out.b3 0 (.int .i64 0) rfl
        have v2 := frozen_at' HX1.out.b2 0; have v3 := frozen_at' HX1.out.b3 0
        have c8 := cells_at ((HB1.out.block (S + 1) (by omega)).trans HB8.out) 0 (.pointer (some ⟨S, 0, none⟩)) rfl
        clear hDK hDK2 hBW
        cases qb with
        | true =>
          gi_wp2
          obtain ⟨t1, t2⟩ := two_cells HX1.out (.pointer (some ⟨S, 0, none⟩)) (.int .i64 0)
          have hS1 : SetAt W1 (S + 1) S t r d l fs := hSET0.below ((HBL.out.mono (by omega)).trans (HB1.out.mono (by omega)))
          have hS2 := hS1.ptr HX1.out.b2 (.pointer (some ⟨S, 0, none⟩))
          have hS3 := hS2.below (noop ((Below.heap_setCell W1 ⟨w.heap.size + 1, 0, none⟩ (.pointer (some ⟨S, 0, none⟩)) (w.heap.size + 2) (by simp)).trans HX1.out.b3) (S + 1))
          refine end_D (by rfl) (by rfl) t1 t2 HDK.out rfl (.inr ⟨by rw [HCR3.out]; rfl, S, rfl, ?_, by omega, ?_⟩)
          · exact (hS3.below (belowK_b (w := W0) (by omega) _ D _ _ hD HDK.out rfl rfl)).up (by simp [World.putObj, World.setCell]; omega)
          · exact ((HBW.out.setCell (p := ⟨w.heap.size + 1, 0, none⟩) (by simp) _).setCell (p := ⟨w.heap.size + 2, 0, none⟩) (by simp) _).trans (belowK_b (w := w) (Nat.le_refl _) _ D _ _ (Nat.le_trans hB0.size hD) HDK.out rfl rfl)
        | false =>
          gi_wp2
          obtain ⟨t1, t2⟩ := two_cells HX1.out (.pointer none) (.int .i64 15)
          refine end_D (by rfl) (by rfl) t1 t2 HDK2.out rfl (.inl ⟨by rw [HCR3.out]; decide, by rw [HCR3.out]; rfl, ?_⟩)
          exact ((HBW.out.setCell (p := ⟨w.heap.size + 1, 0, none⟩) (by simp) _).setCell (p := ⟨w.heap.size + 2, 0, none⟩) (by simp) _).trans (belowK_b (w := w) (Nat.le_refl _) _ D _ _ (Nat.le_trans hB0.size hD) HDK2.out rfl rfl)
    case stop =>
      rintro D c pre W hD hpre ⟨⟨rfl, hin, hc2, hc3⟩, hB⟩ hK
      have HC : Hid (chkC t r d l fs = 15) := Lib.hid (by
        rw [HCR2.out, if_pos]
        obtain ⟨y, hy, hyl⟩ := hin
        unfold leavesB
        rw [List.all_eq_false]
        exact ⟨y, hpre.subset hy, by rw [hyl]; decide⟩)
      gi_wp2
      exact end_D (by rfl) (by rfl) hc2.cell hc3.cell hK rfl (.inl ⟨by rw [HC.out]; decide, by rw [HC.out], hB.trans (belowK_b (w := w) (Nat.le_refl _) W D _ _ (Nat.le_trans hB0.size hD) hK rfl rfl)⟩)
end Go.Proofs.YtpchhfhmopmagaaGreat.Cf
