/- The document's Total. -/
import Derived.Test.YtdoemgccmjddcaaLd12
namespace Go.Proofs.Ytdoemgccmjddcaa.Ld
open Go.RowKit Go.Maps Wd Li Sr Sw

set_option maxRecDepth 20000 in
set_option maxHeartbeats 4000000 in
theorem reftotal_c (A : Option Addr) (n c : Nat) (xs : List Note) (hlen : xs.length ≤ 1048576) (hlow : ∀ id, ((books xs id).getD Book.zero).low 2147483648) (hfin : ∀ zs, Ids (books xs) zs → zs.length ≤ 1048576) (w : World) (hl : Lies 3 Note.cells w.heap.size w (.slice A n c) xs) :
    Calls Try.prog 61 #[.slice A n c] w (TotOk (books xs) w) := by
  have hb0 : Below w.heap.size w ((w.alloc (.cells #[.int .i64 0, .int .i64 0, .int .i64 0, .int .i64 0, .int .i64 0, .int .i64 0] 82)).alloc (.cells #[.int .i64 0, .int .i64 0, .int .i64 0, .int .i64 0, .int .i64 0, .int .i64 0] 82)) := ((Below.refl _ w).alloc (Nat.le_refl _) _).alloc (by simp) _
  have hids := refids_c A n c xs hlen _ (hl.next hb0)
  have HIDS := Lib.hid hids
  have HB0 := Lib.hid hb0
  have HL := Lib.hid hl
  have HLOW := Lib.hid hlow
  have HFIN := Lib.hid hfin
  clear hids hb0 hl hlow hfin
  go_enter Try.func61, Try.ntmps61
  go_wp2_with (go_at_call 59; refine (HIDS.out).mono ?_; rintro e w1 ⟨zs, B, d, rfl, hi, hown, hb1⟩; have HI := Lib.hid hi; have HOWN := Lib.hid hown; have HB1 := Lib.hid hb1; clear hi hown hb1)
  have hzl := HFIN.out zs HI.out
  have hG1 : Hid (w1.heap[w.heap.size + 1]? = some (.cells zeroS.cells 82 (0, 0))) := Lib.hid (by
    have h1 := heap_alloc_new (w.alloc (.cells #[.int .i64 0, .int .i64 0, .int .i64 0, .int .i64 0, .int .i64 0, .int .i64 0] 82)) (.cells #[.int .i64 0, .int .i64 0, .int .i64 0, .int .i64 0, .int .i64 0, .int .i64 0] 82)
    exact (HB1.out.block _ (by simp)).trans (by simpa [Stat.cells, zeroS] using h1))
  have hZ1 : Hid (w1.heap[w.heap.size]? = some (.cells zeroS.cells 82 (0, 0))) := Lib.hid (by
    have h1 := heap_alloc_new w (.cells #[.int .i64 0, .int .i64 0, .int .i64 0, .int .i64 0, .int .i64 0, .int .i64 0] 82)
    exact (HB1.out.block _ (by simp; omega)).trans ((Below.heap_alloc _ _ _ (by simp)).trans h1))
  have hO1 : Hid (w1.ownsRow (w.heap.size + 1 + 1) 3 1 (.slice B zs.length d) zs.length (St.I zs)) := Lib.hid (owns_low HOWN.out (by simp))
  have hW1 : Hid (Below w.heap.size w w1) := Lib.hid (HB0.out.trans (HB1.out.mono (by simp; omega)))
  have hs1 : w.heap.size + 1 + 1 ≤ w1.heap.size := by have := HB1.out.size; simpa using this
  clear HB0 HIDS HB1 HOWN
  go_loopg [5] zs.length (fun kx s5 wr => ∃ k : Nat, s5 = .int .i64 k ∧ k ≤ zs.length ∧ zs.length - k ≤ kx ∧ Hid (wr.heap[w.heap.size + 1]? = some (.cells (totS (books xs) (zs.take k)).cells 82 (0, 0))) ∧ Hid (wr.heap[w.heap.size]? = some (.cells zeroS.cells 82 (0, 0))) ∧ Hid (wr.ownsRow (w.heap.size + 1 + 1) 3 1 (.slice B zs.length d) zs.length (St.I zs)) ∧ Hid (Below w.heap.size w wr) ∧ w.heap.size + 1 + 1 ≤ wr.heap.size)
  case atStart => exact ⟨0, rfl, by omega, by omega, hG1, hZ1, hO1, hW1, hs1⟩
  case round =>
    obtain ⟨k, rfl, hk, hkx, HG, HZ, HO, HW, hsz⟩ := hrel
    by_cases hlt : k < zs.length
    · have hltz : (k : Int) < (zs.length : Int) := by omega
      obtain ⟨id, hid⟩ : ∃ id, zs[k]? = some id := ⟨zs[k], List.getElem?_eq_getElem hlt⟩
      obtain ⟨g, rfl, hg, hgb, hcg⟩ := intl_cell HO.out hid
      have hof := refof_c A n c xs id hlen wr (HL.out.next HW.out)
      have hsl := stat_low (HLOW.out id)
      have htl := tot_low HLOW.out (zs.take k)
      rw [List.length_take] at htl
      have hts := Lib.hid (tot_succ (f := books xs) hid)
      have HOF := Lib.hid hof
      unfold Stat.agg at HOF
      clear hof hid
      generalize statS ((books xs id).getD Book.zero) = s at *
      generalize totS (books xs) (zs.take k) = t at *
      obtain ⟨t0, t1, t2, t3, t4, t5⟩ := t
      obtain ⟨s0, s1, s2, s3, s4, s5⟩ := s
      unfold Stat.low at hsl htl
      simp only at hsl htl
      obtain ⟨a1, a2, a3, a4, a5, a6, a7, a8, a9, a10, a11, a12⟩ := hsl
      obtain ⟨b1, b2, b3, b4, b5, b6, b7, b8, b9, b10, b11, b12⟩ := htl
      have hm : 17179869184 * ((min k zs.length : Nat) : Int) ≤ 18014398509481984 := by omega
      generalize 17179869184 * ((min k zs.length : Nat) : Int) = m at *
      unfold Stat.cells at HG
      simp only at HG HOF
      go_upto_region 7 with (go_at_call 55; refine (HOF.out).mono ?_; rintro e w2 ⟨rfl, hb2⟩)
      generalize hWW : World.alloc w2 _ = W
      have hBW : Below wr.heap.size wr W := by rw [← hWW]; exact hb2.alloc hb2.size _
      have hwz := hb2.size
      have hs : ∀ (i : Nat) (v : Value), #[Value.int .i64 s0, Value.int .i64 s1, Value.int .i64 s2, Value.int .i64 s3, Value.int .i64 s4, Value.int .i64 s5][i]? = some v → W.cell? ⟨w2.heap.size, i, none⟩ = some v := by intro i v hv; rw [← hWW]; exact new_any w2 _ _ i v hv
      have x0 := hs 0 _ rfl; have x1 := hs 1 _ rfl; have x2 := hs 2 _ rfl; have x3 := hs 3 _ rfl; have x4 := hs 4 _ rfl; have x5 := hs 5 _ rfl
      have HGW := Lib.hid ((hBW.block _ (by omega)).trans HG.out)
      have c0 := cells_of HGW.out 0 _ rfl; have c1 := cells_of HGW.out 1 _ rfl; have c2 := cells_of HGW.out 2 _ rfl; have c3 := cells_of HGW.out 3 _ rfl; have c4 := cells_of HGW.out 4 _ rfl; have c5 := cells_of HGW.out 5 _ rfl
      have f0 := frozen_of HGW.out 0; have f1 := frozen_of HGW.out 1; have f2 := frozen_of HGW.out 2; have f3 := frozen_of HGW.out 3; have f4 := frozen_of HGW.out 4; have f5 := frozen_of HGW.out 5
      have n1 : ¬ w2.heap.size = w.heap.size + 1 := by omega
      have n2 : ¬ w.heap.size + 1 = w2.heap.size := by omega
      have HZW := Lib.hid ((hBW.block w.heap.size (by omega)).trans HZ.out)
      have HOW := Lib.hid (owns_bel hBW (Nat.le_refl _) HO.out)
      have HWW := Lib.hid (HW.out.trans (hBW.mono HW.out.size))
      have hszW : w.heap.size + 1 + 1 ≤ W.heap.size := Nat.le_trans hsz hBW.size
      clear hs hWW hBW hb2 HG HZ HO HW HOF hcg
      go_wp2_with (first | (refine wpList_store_whole (by rfl) 82 _ _ (by rfl) 6 Try.sizeOf82 (w.heap.size + 1) _ _ 82 (by rfl) (by rfl) HGW.out (by rfl) (by rfl) (by simp [Value.oneCell']) ?_; intro w5 hb5 hg5))
      go_roundg (zs.length - (k + 1))
      case measure => omega
      case rel =>
        refine ⟨k + 1, by go_num, by omega, by omega, Lib.hid ?_, Lib.hid ?_, Lib.hid ?_, Lib.hid ?_, ?_⟩
        · rw [hts.out]; exact hb5
        · exact (hg5.block _ (by omega) (by simp)).trans HZW.out
        · exact HOW.out.kept hg5 (.inr (own_off HOW.out (by omega)))
        · exact HWW.out.grown hg5 HWW.out.size (fun j hj => by cases hj; omega)
        · exact Nat.le_trans hszW hg5.size
    · have hltz : ¬ (k : Int) < (zs.length : Int) := by omega
      obtain rfl : k = zs.length := by omega
      rw [List.take_length] at HG
      obtain ⟨t, ht⟩ : ∃ t, t = totS (books xs) zs := ⟨_, rfl⟩
      rw [← ht] at HG
      have HT := Lib.hid ht
      clear ht
      obtain ⟨t0, t1, t2, t3, t4, t5⟩ := t
      unfold Stat.cells at HG HZ
      unfold zeroS at HZ
      simp only at HG HZ
      have c0 := cells_of HG.out 0 _ rfl; have c1 := cells_of HG.out 1 _ rfl; have c2 := cells_of HG.out 2 _ rfl; have c3 := cells_of HG.out 3 _ rfl; have c4 := cells_of HG.out 4 _ rfl; have c5 := cells_of HG.out 5 _ rfl
      go_wp2_with (first | (refine wpList_store_whole (by rfl) 82 _ _ (by rfl) 6 Try.sizeOf82 w.heap.size _ _ 82 (by rfl) (by rfl) HZ.out (by rfl) (by rfl) (by simp [Value.oneCell']) ?_; intro w5 hb5 hg5; have r0 := cells_of hb5 0 _ rfl; have r1 := cells_of hb5 1 _ rfl; have r2 := cells_of hb5 2 _ rfl; have r3 := cells_of hb5 3 _ rfl; have r4 := cells_of hb5 4 _ rfl; have r5 := cells_of hb5 5 _ rfl; have HB5 := Lib.hid (HW.out.grown hg5 HW.out.size (fun k hk => by cases hk; exact Nat.le_refl _)); clear hb5 hg5))
      (try simp only [Exit.inBlock, Exit.then])
      refine bodyPost_ret (v := .agg #[.int .i64 t0, .int .i64 t1, .int .i64 t2, .int .i64 t3, .int .i64 t4, .int .i64 t5]) (by simp [results, Try.results61, go_sem, r0, r1, r2, r3, r4, r5]) rfl ?_
      exact ⟨zs, HI.out, by rw [← HT.out]; rfl, HB5.out⟩
end Go.Proofs.Ytdoemgccmjddcaa.Ld
