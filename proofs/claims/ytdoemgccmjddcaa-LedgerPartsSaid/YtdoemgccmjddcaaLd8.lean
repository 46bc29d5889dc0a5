/- The document's Of. -/
import Derived.Test.YtdoemgccmjddcaaLd7
namespace Go.Proofs.Ytdoemgccmjddcaa.Ld
open Go.RowKit Go.Maps Wd Li Sr Sw

/-- what the loop has counted -/
def partS (b : Book) : Stat := ⟨b.got, b.gotB, b.sent, b.sentB, lostS b, 0⟩
def Stat.cells (s : Stat) : Array Value := #[.int .i64 s.got, .int .i64 s.gotB, .int .i64 s.sent, .int .i64 s.sentB, .int .i64 s.lost, .int .i64 s.wait]
theorem part_zero {xs : List Note} {k : Nat} {x : Note} {id : Int} (hx : xs[k]? = some x) (h : x.id = id) (h0 : x.kind = 0) :
    partS ((books (xs.take (k + 1)) id).getD Book.zero) = { partS ((books (xs.take k) id).getD Book.zero) with got := (partS ((books (xs.take k) id).getD Book.zero)).got + 1, gotB := (partS ((books (xs.take k) id).getD Book.zero)).gotB + size x.n } := by
  subst h
  rw [books_hit hx (by simp [Note.counts, h0])]
  unfold step; rw [if_pos h0]; rfl
theorem part_one {xs : List Note} {k : Nat} {x : Note} {id : Int} (hx : xs[k]? = some x) (h : x.id = id) (h1 : x.kind = 1) :
    partS ((books (xs.take (k + 1)) id).getD Book.zero) = { partS ((books (xs.take k) id).getD Book.zero) with sent := (partS ((books (xs.take k) id).getD Book.zero)).sent + 1, sentB := (partS ((books (xs.take k) id).getD Book.zero)).sentB + size x.n } := by
  subst h
  rw [books_hit hx (by simp [Note.counts, h1])]
  unfold step; rw [if_neg (by omega), if_pos h1]; rfl
theorem lost_bump {b : Book} {n : Int} (hn : 1 ≤ n ∧ n ≤ 5) : partS (bump b n) = { partS b with lost := (partS b).lost + 1 } := by
  obtain rfl | rfl | rfl | rfl | rfl : n = 1 ∨ n = 2 ∨ n = 3 ∨ n = 4 ∨ n = 5 := by omega
  all_goals
    simp [bump, partS, lostS]
    omega
theorem part_two {xs : List Note} {k : Nat} {x : Note} {id : Int} (hx : xs[k]? = some x) (h : x.id = id) (hc : x.counts = true) (h0 : x.kind ≠ 0) (h1 : x.kind ≠ 1) :
    partS ((books (xs.take (k + 1)) id).getD Book.zero) = { partS ((books (xs.take k) id).getD Book.zero) with lost := (partS ((books (xs.take k) id).getD Book.zero)).lost + 1 } := by
  subst h
  rw [books_hit hx hc]
  unfold step; rw [if_neg h0, if_neg h1]
  have h2 : x.kind = 2 ∧ (1 ≤ x.n ∧ x.n ≤ 5) := by simpa [Note.counts, h0, h1] using hc
  exact lost_bump h2.2
theorem part_low {b : Book} {m : Int} (h : b.low m) : 0 ≤ (partS b).got ∧ (partS b).got ≤ m ∧ 0 ≤ (partS b).gotB ∧ (partS b).gotB ≤ m ∧ 0 ≤ (partS b).sent ∧ (partS b).sent ≤ m ∧ 0 ≤ (partS b).sentB ∧ (partS b).sentB ≤ m ∧ 0 ≤ (partS b).lost ∧ (partS b).lost ≤ 5 * m := by
  unfold Book.low at h
  simp only [partS, lostS]
  omega
theorem set_at {w : World} {g i : Nat} {cs : Array Value} {t : TypeId} {v : Value} (h : w.heap[g]? = some (.cells cs t (0, 0))) : (w.setCell ⟨g, i, none⟩ v).heap[g]? = some (.cells (cs.setIfInBounds i v) t (0, 0)) := by
  simp [World.setCell, Array.getElem?_modify, h]
theorem frozen_of {w : World} {g : Nat} {cs : Array Value} {e : TypeId} (h : w.heap[g]? = some (.cells cs e (0, 0))) (i : Nat) : w.frozen? ⟨g, i, none⟩ = false := by
  unfold World.frozen?; rw [h]; simp

set_option maxRecDepth 20000 in
set_option maxHeartbeats 4000000 in
theorem refof_c (A : Option Addr) (n c : Nat) (xs : List Note) (id : Int) (hlen : xs.length ≤ 1048576) (w : World) (hI : Lies 3 Note.cells w.heap.size w (.slice A n c) xs) :
    Calls Try.prog 55 #[.slice A n c, .int .i64 id] w fun e w' => e = .returned (statS ((books xs id).getD Book.zero)).agg ∧ Below w.heap.size w w' := by
  obtain ⟨rfl, hcs⟩ := hI.parts
  have HCS := Lib.hid hcs
  clear hcs hI
  go_enter Try.func55, Try.ntmps55
  go_wp2_with fail
  go_loopg [6] xs.length (fun kx s6 wr => ∃ k : Nat, s6 = .int .i64 k ∧ k ≤ xs.length ∧ xs.length - k ≤ kx ∧ Hid (wr.heap[w.heap.size + 1]? = some (.cells (partS ((books (xs.take k) id).getD Book.zero)).cells 82 (0, 0))) ∧ Hid (Below (w.heap.size + 1) (w.alloc (.cells #[.int .i64 0, .int .i64 0, .int .i64 0, .int .i64 0, .int .i64 0, .int .i64 0] 82)) wr) ∧ w.heap.size + 1 < wr.heap.size)
  case atStart => 
    refine ⟨0, rfl, by omega, by omega, Lib.hid ?_, Lib.hid ((Below.refl _ _).alloc (by simp) _), by simp⟩
    have := heap_alloc_new (w.alloc (.cells #[.int .i64 0, .int .i64 0, .int .i64 0, .int .i64 0, .int .i64 0, .int .i64 0] 82)) (.cells #[.int .i64 0, .int .i64 0, .int .i64 0, .int .i64 0, .int .i64 0, .int .i64 0] 82)
    simpa [Stat.cells, partS, books, Book.zero, lostS] using this
  case round =>
    obtain ⟨k, rfl, hk, hkx, HG, HW, hsz⟩ := hrel
    have hlow := part_low (low_up (books_low (xs.take k) id) (show _ ≤ (2147483648 : Int) by rw [List.length_take]; omega))
    by_cases hlt : k < xs.length
    · have hltz : (k : Int) < (xs.length : Int) := by omega
      obtain ⟨x, hx⟩ : ∃ x, xs[k]? = some x := ⟨xs[k], List.getElem?_eq_getElem hlt⟩
      obtain ⟨b, off, rfl, hb, hc⟩ := HCS.out (by omega)
      have hww : Below w.heap.size w wr := ((Below.refl _ w).alloc (Nat.le_refl _) _).trans (HW.out.mono (Nat.le_succ _))
      have hcx : ∀ (i : Nat) (v : Value), x.cells[i]? = some v → wr.cell? ⟨b, off + k * 3 + i, none⟩ = some v := fun i v hv => (hww.cell (p := ⟨b, off + k * 3 + i, none⟩) hb).trans (hc k x hx i v hv)
      have c0 : wr.cell? ⟨b, off + k * 3, none⟩ = some (.int .i64 x.kind) := hcx 0 _ rfl
      have c1 := hcx 1 _ rfl; have c2 := hcx 2 _ rfl
      have hcn := counts_c x
      have hsn := refsize_c x.n
      have hz1 := size_ge x.n; have hz2 := size_le x.n
      have hp0 := part_zero (id := id) hx
      have hp1 := part_one (id := id) hx
      have hp2 := part_two (id := id) hx
      have hpo : ¬ (x.id = id ∧ x.counts = true) → partS ((books (xs.take (k + 1)) id).getD Book.zero) = partS ((books (xs.take k) id).getD Book.zero) := fun h => by rw [books_other hx h]
      have HP0 := Lib.hid hp0; have HP1 := Lib.hid hp1; have HP2 := Lib.hid hp2; have HPO := Lib.hid hpo
      have HSN := Lib.hid hsn
      have hbw : b < wr.heap.size := Nat.lt_of_lt_of_le hb hww.size
      have hbne : ¬ b = w.heap.size + 1 := by omega
      have hbne2 : ¬ w.heap.size + 1 = b := by omega
      clear hx hc hcx hp0 hp1 hp2 hpo hsn hww
      generalize partS ((books (xs.take k) id).getD Book.zero) = s at *
      obtain ⟨got, gotB, sent, sentB, lost, wait⟩ := s
      unfold Stat.cells at HG
      simp only at HG hlow
      obtain ⟨a1, a2, a3, a4, a5, a6, a7, a8, a9, a10⟩ := hlow
      by_cases h1 : x.id = id
      · have e1 : (x.id == id) = true := by rw [beq_iff_eq]; exact h1
        have n1 : (x.id != id) = false := by simp [h1]
        cases hcc : x.counts with
        | false =>
          rw [hcc] at hcn
          unfold Note.agg at hcn
          have HCN := Lib.hid hcn
          have hS := Lib.hid (HPO.out (by rintro ⟨_, h⟩; rw [hcc] at h; cases h))
          clear hcn h1 hcc
          go_wp2_with (go_at_call 128; refine (HCN.out _).mono ?_; rintro e w2 ⟨rfl, hb2⟩)
          go_roundg (xs.length - (k + 1))
          case measure => omega
          case rel => exact ⟨k + 1, by go_num, by omega, by omega, Lib.hid (by rw [hS.out]; exact (hb2.block _ hsz).trans HG.out), Lib.hid (HW.out.trans (hb2.mono (by omega))), Nat.lt_of_lt_of_le hsz hb2.size⟩
        | true =>
          rw [hcc] at hcn
          unfold Note.agg at hcn
          have HCN := Lib.hid hcn
          clear hcn
          by_cases h0 : x.kind = 0
          · have e0 : (x.kind == 0) = true := by rw [beq_iff_eq]; exact h0
            have hS := Lib.hid (HP0.out h1 h0)
            clear h1 h0 hcc
            go_upto_region 6 with (go_at_call 128; refine (HCN.out _).mono ?_; rintro e w2 ⟨rfl, hb2⟩)
            have hg2 := (hb2.block _ hsz).trans HG.out
            have k0 := (hb2.cell (p := ⟨b, off + k * 3, none⟩) hbw).trans c0
            have k2 := (hb2.cell (p := ⟨b, off + k * 3 + 2, none⟩) hbw).trans c2
            have g0 := cells_of hg2 0 _ rfl; have g1 := cells_of hg2 1 _ rfl
            have f0 := frozen_of hg2 0; have f1 := frozen_of hg2 1
            have HG2 := Lib.hid hg2
            have HW2 := Lib.hid (HW.out.trans (hb2.mono (by omega)))
            have hsz2 := Nat.lt_of_lt_of_le hsz hb2.size
            clear hb2 c0 c1 c2 hg2
            go_upto_region 8 with fail
            go_region_with (go_at_call 129; refine (HSN.out _).mono ?_; rintro e w' ⟨rfl, rfl⟩)
            all_goals
              go_wp2
              go_roundg (xs.length - (k + 1))
              case measure => omega
              case rel =>
                refine ⟨k + 1, by go_num, by omega, by omega, Lib.hid ?_, Lib.hid ?_, ?_⟩
                · rw [hS.out]; exact (set_at (set_at HG2.out)).trans (by simp [Stat.cells])
                · exact ((HW2.out.setCell (p := ⟨w.heap.size + 1, 0, none⟩) (Nat.le_refl _) _).setCell (p := ⟨w.heap.size + 1, 1, none⟩) (Nat.le_refl _) _).drew
                · simp; exact hsz2
          · have e0 : (x.kind == 0) = false := by rw [beq_eq_false_iff_ne]; exact h0
            by_cases h2 : x.kind = 1
            · have e2 : (x.kind == 1) = true := by rw [beq_iff_eq]; exact h2
              have hS := Lib.hid (HP1.out h1 h2)
              clear h1 h0 h2 hcc
              go_upto_region 6 with (go_at_call 128; refine (HCN.out _).mono ?_; rintro e w2 ⟨rfl, hb2⟩)
              have hg2 := (hb2.block _ hsz).trans HG.out
              have k0 := (hb2.cell (p := ⟨b, off + k * 3, none⟩) hbw).trans c0
              have k2 := (hb2.cell (p := ⟨b, off + k * 3 + 2, none⟩) hbw).trans c2
              have g0 := cells_of hg2 2 _ rfl; have g1 := cells_of hg2 3 _ rfl
              have f0 := frozen_of hg2 2; have f1 := frozen_of hg2 3
              have HG2 := Lib.hid hg2
              have HW2 := Lib.hid (HW.out.trans (hb2.mono (by omega)))
              have hsz2 := Nat.lt_of_lt_of_le hsz hb2.size
              clear hb2 c0 c1 c2 hg2
              go_upto_region 11 with fail
              go_region_with (go_at_call 129; refine (HSN.out _).mono ?_; rintro e w' ⟨rfl, rfl⟩)
              all_goals
                go_wp2
                go_roundg (xs.length - (k + 1))
                case measure => omega
                case rel =>
                  refine ⟨k + 1, by go_num, by omega, by omega, Lib.hid ?_, Lib.hid ?_, ?_⟩
                  · rw [hS.out]; exact (set_at (set_at HG2.out)).trans (by simp [Stat.cells])
                  · exact ((HW2.out.setCell (p := ⟨w.heap.size + 1, 2, none⟩) (Nat.le_refl _) _).setCell (p := ⟨w.heap.size + 1, 3, none⟩) (Nat.le_refl _) _).drew
                  · simp; exact hsz2
            · have e2 : (x.kind == 1) = false := by rw [beq_eq_false_iff_ne]; exact h2
              have hS := Lib.hid (HP2.out h1 hcc h0 h2)
              clear h1 h0 h2 hcc
              go_upto_region 6 with (go_at_call 128; refine (HCN.out _).mono ?_; rintro e w2 ⟨rfl, hb2⟩)
              have hg2 := (hb2.block _ hsz).trans HG.out
              have k0 := (hb2.cell (p := ⟨b, off + k * 3, none⟩) hbw).trans c0
              have k2 := (hb2.cell (p := ⟨b, off + k * 3 + 2, none⟩) hbw).trans c2
              have g0 := cells_of hg2 4 _ rfl
              have f0 := frozen_of hg2 4
              have HG2 := Lib.hid hg2
              have HW2 := Lib.hid (HW.out.trans (hb2.mono (by omega)))
              have hsz2 := Nat.lt_of_lt_of_le hsz hb2.size
              clear hb2 c0 c1 c2 hg2
              go_wp2_with fail
              go_roundg (xs.length - (k + 1))
              case measure => omega
              case rel =>
                refine ⟨k + 1, by go_num, by omega, by omega, Lib.hid ?_, Lib.hid ?_, ?_⟩
                · rw [hS.out]; exact (set_at HG2.out).trans (by simp [Stat.cells])
                · exact HW2.out.setCell (p := ⟨w.heap.size + 1, 4, none⟩) (Nat.le_refl _) _
                · simp; exact hsz2
      · have n1 : (x.id != id) = true := by simp [h1]
        have hS := Lib.hid (HPO.out (by rintro ⟨h, _⟩; exact h1 h))
        clear hcn h1
        go_wp2_with fail
        go_roundg (xs.length - (k + 1))
        case measure => omega
        case rel => exact ⟨k + 1, by go_num, by omega, by omega, Lib.hid (by rw [hS.out]; exact HG.out), HW, hsz⟩
    · have hltz : ¬ (k : Int) < (xs.length : Int) := by omega
      obtain rfl : k = xs.length := by omega
      rw [List.take_length] at HG hlow
      obtain ⟨bk, hbk⟩ : ∃ bk, bk = (books xs id).getD Book.zero := ⟨_, rfl⟩
      rw [← hbk] at HG hlow
      have HBK := Lib.hid hbk
      clear hbk
      unfold partS at HG hlow
      simp only at hlow
      obtain ⟨a1, a2, a3, a4, a5, a6, a7, a8, a9, a10⟩ := hlow
      unfold Stat.cells at HG
      simp only at HG
      have g0 := cells_of HG.out 0 _ rfl; have g2 := cells_of HG.out 2 _ rfl; have g5 := cells_of HG.out 5 _ rfl
      have f5 := frozen_of HG.out 5
      have hz : Hid (wr.heap[w.heap.size]? = some (.cells #[.int .i64 0, .int .i64 0, .int .i64 0, .int .i64 0, .int .i64 0, .int .i64 0] 82 (0, 0))) := Lib.hid ((HW.out.block w.heap.size (Nat.lt_succ_self _)).trans (heap_alloc_new w _))
      by_cases hgs : bk.got ≤ bk.sent
      · have hm : Hid (max 0 (bk.got - bk.sent) = 0) := Lib.hid (by omega)
        go_upto_region 14 with fail
        generalize hW3 : World.setCell wr _ _ = W3
        have HG3 : Hid (W3.heap[w.heap.size + 1]? = some (.cells #[.int .i64 bk.got, .int .i64 bk.gotB, .int .i64 bk.sent, .int .i64 bk.sentB, .int .i64 (lostS bk), .int .i64 (0)] 82 (0, 0))) := Lib.hid (by rw [← hW3]; exact set_at HG.out)
        have hz3 : Hid (W3.heap[w.heap.size]? = some (.cells #[.int .i64 0, .int .i64 0, .int .i64 0, .int .i64 0, .int .i64 0, .int .i64 0] 82 (0, 0))) := Lib.hid (by rw [← hW3]; exact (Below.heap_setCell _ _ _ _ (by simp)).trans hz.out)
        have HW3 : Hid (Below w.heap.size w W3) := Lib.hid (by rw [← hW3]; exact (((Below.refl _ w).alloc (Nat.le_refl _) _).trans (HW.out.mono (Nat.le_succ _))).setCell (by simp) _)
        clear hW3 g0 g2 g5 f5
        have r0 := cells_of HG3.out 0 _ rfl; have r1 := cells_of HG3.out 1 _ rfl; have r2 := cells_of HG3.out 2 _ rfl; have r3 := cells_of HG3.out 3 _ rfl; have r4 := cells_of HG3.out 4 _ rfl; have r5 := cells_of HG3.out 5 _ rfl
        go_wp2_with (first | (refine wpList_store_whole (by rfl) 82 _ _ (by rfl) 6 Try.sizeOf82 w.heap.size _ _ 82 (by rfl) (by rfl) hz3.out (by rfl) (by rfl) (by simp [Value.oneCell']) ?_; intro w5 hb5 hg5; have s0 := cells_of hb5 0 _ rfl; have s1 := cells_of hb5 1 _ rfl; have s2 := cells_of hb5 2 _ rfl; have s3 := cells_of hb5 3 _ rfl; have s4 := cells_of hb5 4 _ rfl; have s5 := cells_of hb5 5 _ rfl; have HB5 := Lib.hid (HW3.out.grown hg5 HW3.out.size (fun k hk => by cases hk; exact Nat.le_refl _)); clear hb5 hg5))
        (try simp only [Exit.inBlock, Exit.then])
        refine bodyPost_ret (v := .agg #[.int .i64 bk.got, .int .i64 bk.gotB, .int .i64 bk.sent, .int .i64 bk.sentB, .int .i64 (lostS bk), .int .i64 (0)]) (by simp [results, Try.results55, go_sem, s0, s1, s2, s3, s4, s5]) rfl ⟨by rw [← HBK.out]; unfold statS Stat.agg; rw [hm.out], HB5.out⟩
      · have hm : Hid (max 0 (bk.got - bk.sent) = bk.got - bk.sent) := Lib.hid (by omega)
        go_upto_region 14 with fail
        generalize hW3 : World.setCell wr _ _ = W3
        have HG3 : Hid (W3.heap[w.heap.size + 1]? = some (.cells #[.int .i64 bk.got, .int .i64 bk.gotB, .int .i64 bk.sent, .int .i64 bk.sentB, .int .i64 (lostS bk), .int .i64 (bk.got - bk.sent)] 82 (0, 0))) := Lib.hid (by rw [← hW3]; exact set_at HG.out)
        have hz3 : Hid (W3.heap[w.heap.size]? = some (.cells #[.int .i64 0, .int .i64 0, .int .i64 0, .int .i64 0, .int .i64 0, .int .i64 0] 82 (0, 0))) := Lib.hid (by rw [← hW3]; exact (Below.heap_setCell _ _ _ _ (by simp)).trans hz.out)
        have HW3 : Hid (Below w.heap.size w W3) := Lib.hid (by rw [← hW3]; exact (((Below.refl _ w).alloc (Nat.le_refl _) _).trans (HW.out.mono (Nat.le_succ _))).setCell (by simp) _)
        clear hW3 g0 g2 g5 f5
        have r0 := cells_of HG3.out 0 _ rfl; have r1 := cells_of HG3.out 1 _ rfl; have r2 := cells_of HG3.out 2 _ rfl; have r3 := cells_of HG3.out 3 _ rfl; have r4 := cells_of HG3.out 4 _ rfl; have r5 := cells_of HG3.out 5 _ rfl
        go_wp2_with (first | (refine wpList_store_whole (by rfl) 82 _ _ (by rfl) 6 Try.sizeOf82 w.heap.size _ _ 82 (by rfl) (by rfl) hz3.out (by rfl) (by rfl) (by simp [Value.oneCell']) ?_; intro w5 hb5 hg5; have s0 := cells_of hb5 0 _ rfl; have s1 := cells_of hb5 1 _ rfl; have s2 := cells_of hb5 2 _ rfl; have s3 := cells_of hb5 3 _ rfl; have s4 := cells_of hb5 4 _ rfl; have s5 := cells_of hb5 5 _ rfl; have HB5 := Lib.hid (HW3.out.grown hg5 HW3.out.size (fun k hk => by cases hk; exact Nat.le_refl _)); clear hb5 hg5))
        (try simp only [Exit.inBlock, Exit.then])
        refine bodyPost_ret (v := .agg #[.int .i64 bk.got, .int .i64 bk.gotB, .int .i64 bk.sent, .int .i64 bk.sentB, .int .i64 (lostS bk), .int .i64 (bk.got - bk.sent)]) (by simp [results, Try.results55, go_sem, s0, s1, s2, s3, s4, s5]) rfl ⟨by rw [← HBK.out]; unfold statS Stat.agg; rw [hm.out], HB5.out⟩
end Go.Proofs.Ytdoemgccmjddcaa.Ld
