/- The document's Delays; Parts. -/
import Derived.Test.YtdoemgccmjddcaaSr8
namespace Go.Proofs.Ytdoemgccmjddcaa.Sr
open Go.RowKit Go.Maps Go.Shelf Fl Wd Li St

theorem owns_below {u u2 : World} {base B : Nat} {e : TypeId} {z : Nat} {v : Value} {k : Nat} {xs : List Value} (hb : Below B u u2) (hB : u.heap.size ≤ B) (h : u.ownsRow base e z v k xs) : u2.ownsRow base e z v k xs := by
  refine ⟨h.1, ?_⟩
  rcases h.2 with h0 | ⟨g, cap, cur, e1, e2, hg, r⟩
  · exact .inl h0
  · exact .inr ⟨g, cap, cur, e1, e2, (hb.block g (Nat.lt_of_lt_of_le (lt_of_get hg) hB)).trans hg, r⟩

set_option maxRecDepth 20000 in
set_option maxHeartbeats 2000000 in
theorem refdelays_c (A : Option Addr) (n c : Nat) (l : List En) (hlen : l.length ≤ 1048576) (w : World) (hI : Ls w.heap.size w (.slice A n c) l) :
    Calls Try.prog 34 #[.slice A n c] w fun e w' => ∃ B d, e = .returned (.slice B (went l l.length).length d) ∧ Sl w' w'.heap.size 1 B (went l l.length).length (I (dels (went l l.length))) ∧ Below w.heap.size w w' := by
  obtain ⟨i0, hi, hz0, hz1, hz2⟩ := info_parts int_info
  obtain ⟨rfl, hcs⟩ := hI.parts
  have HCS := Lib.hid hcs
  have HI := Lib.hid hI
  clear hcs hI
  go_enter Try.func34, Try.ntmps34
  go_wp2_with fail
  go_loopg [3, 4] l.length (fun kx s3 s4 wr => ∃ (k m : Nat) (B : Option Addr) (d : Nat), s3 = .slice B m d ∧ s4 = .int .i64 k ∧ k ≤ l.length ∧ l.length - k ≤ kx ∧ Hid (m = (went l k).length) ∧ Hid (wr.ownsRow w.heap.size 3 1 (.slice B m d) m (I (dels (went l k)))) ∧ Hid (Below w.heap.size w wr))
  case atStart => exact ⟨0, 0, none, 0, rfl, rfl, by omega, by omega, Lib.hid rfl, Lib.hid (World.ownsRow_nil ..), Lib.hid (Below.refl _ w)⟩
  case round =>
    obtain ⟨k, m, B, d, rfl, rfl, hk, hkx, HM, HO, HW⟩ := hrel
    have hws : w.heap.size ≤ wr.heap.size := HW.out.size
    by_cases hlt : k < l.length
    · have hltz : (k : Int) < (l.length : Int) := by omega
      obtain ⟨x, hx⟩ : ∃ x, l[k]? = some x := ⟨l[k], List.getElem?_eq_getElem hlt⟩
      obtain ⟨b, off, rfl, hb, hc⟩ := HCS.out (by omega)
      have hcame := came_c _ _ _ k l hlen w.heap.size wr (HI.out.below HW.out) x hx
      have HX := Lib.hid hx
      have HC := Lib.hid hc
      have HB := Lib.hid hb
      clear hx hc hb
      cases hcm : came l k x with
      | none =>
        rw [hcm] at hcame
        have HCAME := Lib.hid hcame
        have HCM := Lib.hid hcm
        clear hcm hcame
        go_wp2_with (go_at_call 112; refine (HCAME.out).mono ?_; rintro e w2 ⟨q2, rfl, rfl⟩; unfold idx)
        go_roundg (l.length - (k + 1))
        case measure => omega
        case rel => exact ⟨k + 1, m, B, d, rfl, by go_num, by omega, by omega, Lib.hid (by rw [went_none HX.out HCM.out]; exact HM.out), Lib.hid (by rw [went_none HX.out HCM.out]; exact HO.out), Lib.hid (below_drewN HW.out q2)⟩
      | some j =>
        rw [hcm] at hcame
        have hjk : j < k ∧ ∃ y, l[j]? = some y := by
          unfold came at hcm
          split at hcm
          · obtain ⟨h1, y, h2, _⟩ := first_lt hcm; exact ⟨h1, y, h2⟩
          · cases hcm
        obtain ⟨hj, y, hy⟩ := hjk
        have hjl : (j : Int) < (l.length : Int) := by omega
        have hj0 : (0 : Int) ≤ (j : Int) := by omega
        have hst := went_some HX.out hcm hy
        have hmk : m < 16777216 := by have h1 := went_len l k; have h2 := HM.out; omega
        have HST := Lib.hid hst
        have HCAME := Lib.hid hcame
        have HY := Lib.hid hy
        clear hcm hcame hst hy
        go_upto_region 7 with (go_at_call 112; refine (HCAME.out).mono ?_; rintro e w2 ⟨q2, rfl, rfl⟩; unfold idx)
        generalize hW2 : World.drewN wr q2 = W
        have x8 : W.cell? ⟨b, off + k * 11 + 8, none⟩ = some (.int .i64 x.now) := by rw [← hW2]; exact (HW.out.cell (p := ⟨b, off + k * 11 + 8, none⟩) HB.out).trans (HC.out k x HX.out 8 _ rfl)
        have y8 : W.cell? ⟨b, off + j * 11 + 8, none⟩ = some (.int .i64 y.now) := by rw [← hW2]; exact (HW.out.cell (p := ⟨b, off + j * 11 + 8, none⟩) HB.out).trans (HC.out j y HY.out 8 _ rfl)
        have HOW : Hid (W.drew.ownsRow w.heap.size 3 1 (.slice B m d) m (I (dels (went l k)))) := by rw [← hW2]; exact Lib.hid HO.out
        have HWW : Hid (Below w.heap.size w W) := by rw [← hW2]; exact Lib.hid (below_drewN HW.out q2)
        have hgs : w.heap.size ≤ W.drew.heap.size := HWW.out.size
        have hgs2 : w.heap.size ≤ W.heap.size := HWW.out.size
        clear hW2 HO HW HCAME
        go_region_law (first
          | (refine step_push1 _ rfl _ _ 27 rfl w.heap.size 3 i0 _ 8 Try.underlying27 hi hz0 hz1 hz2 rfl (by decide) _ rfl B m d _ HOW.out (by simp [Act.eval, Act.put]) (by simp [Act.eval, Act.put]) hmk hgs ?_; intro A' c' w3 hown3 hgrow3)
          | (go_simp; go_at_call 113; refine (refsub_c _ _ _).mono ?_; rintro e w' ⟨rfl, rfl⟩))
        all_goals
          go_wp2
          go_roundg (l.length - (k + 1))
          case measure => omega
          case rel => exact ⟨k + 1, m + 1, A', c', rfl, by go_num, by omega, by omega, Lib.hid (by rw [HST.out, HM.out]; simp), Lib.hid (by rw [HST.out]; simpa [dels, I] using hown3), Lib.hid ((HWW.out.drew.alloc hgs _).grown hgrow3 (by simp; omega) (fun j hj => (HOW.out.lt j hj).1))⟩
    · have hltz : ¬ (k : Int) < (l.length : Int) := by omega
      obtain rfl : k = l.length := by omega
      go_wp2
      go_ret
      have e := HM.out
      subst e
      exact ⟨B, ⟨d, rfl⟩, Sl.of_own HO.out, HW.out⟩
theorem flt_info : (Try.prog.info? 45).map (fun i => (i.zero, i.size, i.bytes)) = some (some (.float .f64 0), 1, 8) := by kernel_rfl
/-- the parts of the leaves -/
def Are (l : List En) (leaves : List Int) (rs : List Nat) : Prop :=
  rs.length = leaves.length ∧ ∀ (i : Nat) (leaf : Int), leaves[i]? = some leaf → ∃ r, rs[i]? = some r ∧ cf r = quoS (sumRaw (pick false leaf) (went l l.length)) (sumRaw (pick true 0) (went l l.length)) ∧ r < 18446744073709551616
theorem sum_leaf (leaf : Int) (ps : List (En × En)) : sumRaw (fun x => x.leaf == leaf) ps = sumRaw (pick false leaf) ps := rfl
theorem are_snoc {l : List En} {leaves : List Int} {rs : List Nat} {k r : Nat} {leaf : Int} (hk : leaves[k]? = some leaf) (h : Are l (leaves.take k) rs) (hr : cf r = quoS (sumRaw (pick false leaf) (went l l.length)) (sumRaw (pick true 0) (went l l.length))) (hr2 : r < 18446744073709551616) : Are l (leaves.take (k + 1)) (rs ++ [r]) := by
  have hkl := (List.getElem?_eq_some_iff.1 hk).1
  have hrl : rs.length = k := by rw [h.1, List.length_take]; omega
  refine ⟨by rw [List.length_append, hrl, List.length_take]; simp; omega, fun i lf hi => ?_⟩
  rw [List.take_add_one, hk] at hi
  by_cases e : i < k
  · rw [List.getElem?_append_left (by rw [List.length_take]; omega)] at hi
    obtain ⟨r2, h1, h2⟩ := h.2 i lf hi
    exact ⟨r2, by rw [List.getElem?_append_left (by omega)]; exact h1, h2⟩
  · rw [List.getElem?_append_right (by rw [List.length_take]; omega), List.length_take] at hi
    have hi0 : i - min k leaves.length = 0 := by
      have := (List.getElem?_eq_some_iff.1 hi).1
      simp at this; omega
    rw [hi0] at hi
    simp at hi
    subst hi
    have hik : i = k := by omega
    subst hik
    exact ⟨r, by rw [List.getElem?_append_right (by omega), hrl]; simp, hr, hr2⟩
theorem ratio_c (a b : Int) (w : World) : Calls Try.prog 22 #[.int .i64 a, .int .i64 b] w (PartOk a b w) := by
  refine (ratio_any a b w).mono ?_
  rintro e w' ⟨rfl, rfl⟩
  exact ⟨_, _, rfl, cf_fbits _ _ _ _, fbits_lt _ _ _ _, rfl⟩
def PartsOk (l : List En) (leaves : List Int) (w : World) (e : Ending) (w' : World) : Prop := ∃ B d rs, e = .returned (.slice B leaves.length d) ∧ Are l leaves rs ∧ Sl w' w'.heap.size 1 B leaves.length (F rs) ∧ Below w.heap.size w w'

set_option maxRecDepth 20000 in
set_option maxHeartbeats 2000000 in
theorem parts_c (A A2 : Option Addr) (n c c2 : Nat) (l : List En) (leaves : List Int) (hlen : l.length ≤ 1048576) (hll : leaves.length ≤ 1048576) (hwf : ∀ (j : Nat) (x : En), l[j]? = some x → (Lit.int .i64 x.seq).wf = true) (hl : ∀ (j : Nat) (x : En), l[j]? = some x → x.raw.size ≤ 2100) (w : World) (hI : Ls w.heap.size w (.slice A n c) l) (hL : Sl w w.heap.size 1 A2 leaves.length (I leaves)) :
    Calls Try.prog 31 #[.slice A n c, .slice A2 leaves.length c2] w (PartsOk l leaves w) := by
  obtain ⟨i0, hi, hz0, hz1, hz2⟩ := info_parts flt_info
  have hw := went_c 109 #[.pointer (some ⟨w.heap.size, 0, none⟩)] A n c l hlen hwf (Sums (fun _ => true) w.heap.size w.heap.size 0 w)
    (enters_of Try.func109 (by kernel_rfl) rfl)
    (fun ps u h => (hI.below h.2.2.1).up h.2.2.1.size)
    (fun ps x y u h hx hy hps => by
      obtain ⟨j, hj⟩ := List.getElem?_of_mem hy
      have hr := hl j y hj
      have hs := sumRaw_le (fun _ => true) ps h.2.2.2
      exact (parts1_c x y w.heap.size _ u h.1 (by omega)).mono (fun e u2 ha => h.next (by omega) hr (by simpa using ha)))
    (w.alloc (.cells #[.int .i64 0] 3))
    (fun ps u1 u2 h hc hb => h.kept (by simp) hc hb)
    ⟨heap_alloc_new w _, .inr rfl, (Below.refl _ w).alloc (Nat.le_refl _) _, fun p h => by cases h⟩
  have HWENT := Lib.hid hw
  have hby : ∀ leaf u, Below w.heap.size w u → Calls Try.prog 36 #[.slice A n c, .int .i64 leaf] u fun e w' => e = .returned (.int .i64 (sumRaw (pick false leaf) (went l l.length))) ∧ Below u.heap.size u w' := fun leaf u hu =>
    bytes_c A n c leaf l hlen hwf hl u ((hI.below hu).up hu.size)
  have HBY := Lib.hid hby
  have HL := Lib.hid hL
  have hbnd : ∀ f, sumRaw f (went l l.length) ≤ 2202009600 := fun f => by
    have h1 := sumRaw_le f (went l l.length) (went_short hl l.length); have h2 := went_len l l.length; omega
  clear hw hby hI hL hwf hl
  go_enter Try.func31, Try.ntmps31
  go_wp2_with (go_at_call 108; refine (HWENT.out).mono ?_; rintro e w2 ⟨v, rfl, hs⟩; have hcell := cell_at hs.1; have hltG := lt_of_get hs.1; have HB := Lib.hid hs.2.2.1; clear hs)
  generalize hTT : sumRaw (fun _ => true) (went l l.length) = TT at *
  have HTT : Hid (TT = sumRaw (pick true 0) (went l l.length)) := Lib.hid hTT.symm
  clear hTT
  go_loopg [6, 14] leaves.length (fun kx s6 s14 wr => ∃ (k : Nat) (B : Option Addr) (d : Nat) (rs : List Nat), s6 = .slice B k d ∧ s14 = .int .i64 k ∧ k ≤ leaves.length ∧ leaves.length - k ≤ kx ∧ Hid (Are l (leaves.take k) rs) ∧ Hid (wr.ownsRow w2.heap.size 45 1 (.slice B k d) k (F rs)) ∧ Hid (Below w2.heap.size w2 wr))
  case atStart => exact ⟨0, none, 0, [], rfl, rfl, by omega, by omega, Lib.hid ⟨rfl, fun i leaf h => by simp at h⟩, Lib.hid (World.ownsRow_nil ..), Lib.hid (Below.refl _ _)⟩
  case round =>
    obtain ⟨k, B, d, rs, rfl, rfl, hk, hkx, HA, HO, HW⟩ := hrel
    by_cases hlt : k < leaves.length
    · have hltz : (k : Int) < (leaves.length : Int) := by omega
      have hbw : Below w.heap.size w wr := HB.out.trans (HW.out.mono HB.out.size)
      obtain ⟨a, u, rfl, hab, hu, hc⟩ := ((HL.out.below hbw).more hbw.size).cell1 (k := k) hlt
      unfold I at hu
      simp only [List.getElem?_map] at hu
      obtain ⟨leaf, hleaf, rfl⟩ := Option.map_eq_some_iff.1 hu
      have hcG : wr.cell? ⟨w.heap.size, 0, none⟩ = some (.int .i64 TT) := (HW.out.cell (p := ⟨w.heap.size, 0, none⟩) hltG).trans hcell
      have HLEAF := Lib.hid hleaf
      have hgs : w2.heap.size ≤ wr.heap.size := HW.out.size
      clear hu hleaf
      have hbd : Hid (Calls Try.prog 36 #[.slice A n c, .int .i64 leaf] wr.drew fun e w' => e = .returned (.int .i64 (sumRaw (pick false leaf) (went l l.length))) ∧ Below wr.drew.heap.size wr.drew w') := Lib.hid (HBY.out leaf wr.drew hbw.drew)
      have hGd : w.heap.size < wr.drew.heap.size := by show w.heap.size < wr.heap.size; omega
      have HOD : Hid (wr.drew.ownsRow w2.heap.size 45 1 (.slice B k d) k (F rs)) := Lib.hid HO.out
      have HWD : Hid (Below w2.heap.size w2 wr.drew) := Lib.hid HW.out.drew
      have hgd : w2.heap.size ≤ wr.drew.heap.size := hgs
      have hk63 : k < 16777216 := by omega
      have hcd : wr.drew.cell? ⟨w.heap.size, 0, none⟩ = some (.int .i64 TT) := hcG
      generalize hS : sumRaw (pick false leaf) (went l l.length) = S at *
      have HS := Lib.hid hS
      clear hS hbw HO HW
      go_upto_region 7 with fail
      go_region_law (first
        | (refine step_push1 _ rfl _ _ 42 rfl w2.heap.size 45 i0 _ 8 Try.underlying42 hi hz0 hz1 hz2 rfl (by decide) _ rfl B k d _ (HO3.out _) (by simp [Act.eval, Act.put]) (by simp [Act.eval, Act.put]) hk63 (hg3.out _) ?_; intro A' c' w5 hown5 hgrow5)
        | (go_simp; go_at_call 36; refine (hbd.out).mono ?_; rintro e w3 ⟨rfl, hb3⟩; have hc3 := (hb3.cell (p := ⟨w.heap.size, 0, none⟩) hGd).trans hcd; have HO3 : Hid (∀ q, (w3.drewN q).ownsRow w2.heap.size 45 1 (.slice B k d) k (F rs)) := Lib.hid (fun q => (show w3.ownsRow w2.heap.size 45 1 (.slice B k d) k (F rs) from owns_below hb3 (Nat.le_refl _) HOD.out)); have HW3 := Lib.hid (HWD.out.trans (hb3.mono hgd)); have hg3 : Hid (∀ q, w2.heap.size ≤ (w3.drewN q).heap.size) := Lib.hid (fun q => HW3.out.size); clear hb3)
        | (go_simp; go_at_call 22; refine (ratio_c _ _ _).mono ?_; rintro e w4 ⟨r, q, rfl, hr, hr2, rfl⟩; have HR := Lib.hid hr; have HR2 := Lib.hid hr2; clear hr hr2))
      all_goals
        go_wp2
        go_roundg (leaves.length - (k + 1))
        case measure => omega
        case rel =>
          refine ⟨k + 1, A', c', rs ++ [r], rfl, by go_num, by omega, by omega, Lib.hid ?_, Lib.hid (by simpa [F] using hown5), Lib.hid (((below_drewN HW3.out q).alloc (hg3.out q) _).grown hgrow5 (by have := HW3.out.size; simp; omega) (fun j hj => (HOD.out.lt j hj).1))⟩
          exact are_snoc HLEAF.out HA.out (by rw [HR.out, HS.out, HTT.out]) HR2.out
    · have hltz : ¬ (k : Int) < (leaves.length : Int) := by omega
      obtain rfl : k = leaves.length := by omega
      go_wp2
      go_ret
      refine ⟨B, d, rs, rfl, by have := HA.out; rwa [List.take_length] at this, Sl.of_own HO.out, HB.out.trans (HW.out.mono HB.out.size)⟩
end Go.Proofs.Ytdoemgccmjddcaa.Sr
