/- Lost, New, play. -/
import Derived.Test.YtdoemgccmjddcaaLd2
namespace Go.Proofs.Ytdoemgccmjddcaa.Ld
open Go.RowKit Go.Maps Wd Li Sr

set_option maxRecDepth 20000 in
theorem lost_bad (L : Nat) (id r : Int) (hr : r < 1 ∨ 5 < r) (w : World) :
    Calls Try.prog 64 #[.pointer (some ⟨L, 0, none⟩), .int .i64 id, .int .i64 r] w fun e w' => ∃ v, e = .returned v ∧ w' = w := by
  by_cases h1 : r ≤ 0
  · have e1 : decide (r ≤ 0) = true := decide_eq_true h1
    go_enter Try.func64, Try.ntmps64
    go_wp2
    (try simp only [Exit.inBlock, Exit.then])
    refine bodyPost_ret (results_none rfl _ _ _) rfl ?_
    exact ⟨_, rfl, rfl⟩
  · have e1 : decide (r ≤ 0) = false := decide_eq_false h1
    have e2 : decide (6 ≤ r) = true := decide_eq_true (by omega)
    clear hr
    go_enter Try.func64, Try.ntmps64
    go_wp2
    (try simp only [Exit.inBlock, Exit.then])
    refine bodyPost_ret (results_none rfl _ _ _) rfl ?_
    first | exact ⟨_, rfl, rfl⟩ | exact ⟨⟨_, rfl⟩, rfl⟩ | simp

set_option maxRecDepth 20000 in
set_option maxHeartbeats 2000000 in
theorem lost_1 (L M n : Nat) (f : Int → Option Book) (id : Int) (hid : (Lit.int .i64 id).wf = true) (hn : n < 1048576) (hb : ((f id).getD Book.zero).low 4611686018) (w : World) (hl : Led w L M n f) :
    Calls Try.prog 64 #[.pointer (some ⟨L, 0, none⟩), .int .i64 id, .int .i64 1] w (Wrote w L M (n + 1) (fun i => if i = id then some { (f id).getD Book.zero with l1 := ((f id).getD Book.zero).l1 + 1 } else f i)) := by
  obtain ⟨D, hown, hA⟩ := hl.map
  have hat := (hA id).2
  have hkey := keyOf_int_mk (P := Try.prog) (k := 3) Try.underlying3 hid
  have hcL : w.cell? ⟨L, 0, none⟩ = some (.map (some M)) := by simp [World.cell?, hl.cell]
  have hltL := lt_of_get hl.cell
  have hltM := hl.lt
  have HA := Lib.hid hA; have HL := Lib.hid hl; have HO := Lib.hid hown
  have hmx : n < maxLen := by unfold maxLen; omega
  generalize (f id).getD Book.zero = b at *
  have hlo : 0 ≤ b.l1 ∧ b.l1 ≤ 4611686018 := by unfold Book.low at hb; omega
  obtain ⟨b1, b2⟩ := hlo
  clear hown hA hl hb
  go_enter Try.func64, Try.ntmps64
  go_upto_region 3 with (first | (at_lookup; refine wpList_look_book _ (by rfl) _ _ 154 (by rfl) 3 153 law3 Try.underlying154 (zeroB _) M n D (by rfl) HO.out _ _ (by rfl) hkey b hat ?_; unfold Book.agg))
  generalize hW : World.alloc w _ = W
  have hg : ∀ (i : Nat) (v : Value), #[Value.int .i64 b.got, Value.int .i64 b.gotB, Value.int .i64 b.sent, Value.int .i64 b.sentB, Value.int .i64 b.l0, Value.int .i64 (b.l1 + 1), Value.int .i64 b.l2, Value.int .i64 b.l3, Value.int .i64 b.l4, Value.int .i64 b.l5][i]? = some v → W.cell? ⟨w.heap.size, i, none⟩ = some v := by intro i v hv; rw [← hW]; exact new_any w _ _ i v hv
  have g0 := hg 0 _ rfl
  have g1 := hg 1 _ rfl
  have g2 := hg 2 _ rfl
  have g3 := hg 3 _ rfl
  have g4 := hg 4 _ rfl
  have g5 := hg 5 _ rfl
  have g6 := hg 6 _ rfl
  have g7 := hg 7 _ rfl
  have g8 := hg 8 _ rfl
  have g9 := hg 9 _ rfl
  have hcW : W.cell? ⟨L, 0, none⟩ = some (.map (some M)) := by rw [← hW]; exact Lib.cell?_alloc_some _ hcL
  have HOW : Hid (W.drew.ownsMap Try.prog 3 bookElem M n D) := by rw [← hW]; exact Lib.hid (HO.out.alloc _)
  have HGW : Hid (w.grownBy W.drew none) := by rw [← hW]; exact Lib.hid ⟨rfl, rfl, rfl, by simp, fun k hk _ => Below.heap_alloc w _ k hk⟩
  have hWs : w.heap.size < W.heap.size := by rw [← hW]; simp
  clear hg hW hcL
  go_still_tail 6, (by kernel_rfl)
  change wpList _ _ _ _ _ (World.drew _)
  refine wpList_mapUpdate_own _ (by rfl) _ _ _ 154 (by rfl) 3 153 law3 Try.underlying154 _ M n D (by rfl) HOW.out hmx _ (Book.agg ⟨b.got, b.gotB, b.sent, b.sentB, b.l0, (b.l1 + 1), b.l2, b.l3, b.l4, b.l5⟩) _ (by rfl) (by rfl) hkey _ [] (bookElem_mk _) ?_
  intro w1 hown1 hgrow1
  have HG1 : Hid (w.grownBy w1 (some M)) := Lib.hid ((grown_but HGW.out (some M)).trans hgrow1)
  go_wp2
  (try simp only [Exit.inBlock, Exit.then])
  refine bodyPost_ret (results_none rfl _ _ _) rfl ?_
  refine ⟨_, rfl, ⟨(HG1.out.block L hltL (fun e => HL.out.ne (by injection e))).trans HL.out.cell, _, hown1, ?_⟩, HG1.out⟩
  exact agree_put (owns_isMap law3 HO.out) HA.out

set_option maxRecDepth 20000 in
set_option maxHeartbeats 2000000 in
theorem lost_2 (L M n : Nat) (f : Int → Option Book) (id : Int) (hid : (Lit.int .i64 id).wf = true) (hn : n < 1048576) (hb : ((f id).getD Book.zero).low 4611686018) (w : World) (hl : Led w L M n f) :
    Calls Try.prog 64 #[.pointer (some ⟨L, 0, none⟩), .int .i64 id, .int .i64 2] w (Wrote w L M (n + 1) (fun i => if i = id then some { (f id).getD Book.zero with l2 := ((f id).getD Book.zero).l2 + 1 } else f i)) := by
  obtain ⟨D, hown, hA⟩ := hl.map
  have hat := (hA id).2
  have hkey := keyOf_int_mk (P := Try.prog) (k := 3) Try.underlying3 hid
  have hcL : w.cell? ⟨L, 0, none⟩ = some (.map (some M)) := by simp [World.cell?, hl.cell]
  have hltL := lt_of_get hl.cell
  have hltM := hl.lt
  have HA := Lib.hid hA; have HL := Lib.hid hl; have HO := Lib.hid hown
  have hmx : n < maxLen := by unfold maxLen; omega
  generalize (f id).getD Book.zero = b at *
  have hlo : 0 ≤ b.l2 ∧ b.l2 ≤ 4611686018 := by unfold Book.low at hb; omega
  obtain ⟨b1, b2⟩ := hlo
  clear hown hA hl hb
  go_enter Try.func64, Try.ntmps64
  go_upto_region 3 with (first | (at_lookup; refine wpList_look_book _ (by rfl) _ _ 154 (by rfl) 3 153 law3 Try.underlying154 (zeroB _) M n D (by rfl) HO.out _ _ (by rfl) hkey b hat ?_; unfold Book.agg))
  generalize hW : World.alloc w _ = W
  have hg : ∀ (i : Nat) (v : Value), #[Value.int .i64 b.got, Value.int .i64 b.gotB, Value.int .i64 b.sent, Value.int .i64 b.sentB, Value.int .i64 b.l0, Value.int .i64 b.l1, Value.int .i64 (b.l2 + 1), Value.int .i64 b.l3, Value.int .i64 b.l4, Value.int .i64 b.l5][i]? = some v → W.cell? ⟨w.heap.size, i, none⟩ = some v := by intro i v hv; rw [← hW]; exact new_any w _ _ i v hv
  have g0 := hg 0 _ rfl
  have g1 := hg 1 _ rfl
  have g2 := hg 2 _ rfl
  have g3 := hg 3 _ rfl
  have g4 := hg 4 _ rfl
  have g5 := hg 5 _ rfl
  have g6 := hg 6 _ rfl
  have g7 := hg 7 _ rfl
  have g8 := hg 8 _ rfl
  have g9 := hg 9 _ rfl
  have hcW : W.cell? ⟨L, 0, none⟩ = some (.map (some M)) := by rw [← hW]; exact Lib.cell?_alloc_some _ hcL
  have HOW : Hid (W.drew.ownsMap Try.prog 3 bookElem M n D) := by rw [← hW]; exact Lib.hid (HO.out.alloc _)
  have HGW : Hid (w.grownBy W.drew none) := by rw [← hW]; exact Lib.hid ⟨rfl, rfl, rfl, by simp, fun k hk _ => Below.heap_alloc w _ k hk⟩
  have hWs : w.heap.size < W.heap.size := by rw [← hW]; simp
  clear hg hW hcL
  go_still_tail 6, (by kernel_rfl)
  change wpList _ _ _ _ _ (World.drew _)
  refine wpList_mapUpdate_own _ (by rfl) _ _ _ 154 (by rfl) 3 153 law3 Try.underlying154 _ M n D (by rfl) HOW.out hmx _ (Book.agg ⟨b.got, b.gotB, b.sent, b.sentB, b.l0, b.l1, (b.l2 + 1), b.l3, b.l4, b.l5⟩) _ (by rfl) (by rfl) hkey _ [] (bookElem_mk _) ?_
  intro w1 hown1 hgrow1
  have HG1 : Hid (w.grownBy w1 (some M)) := Lib.hid ((grown_but HGW.out (some M)).trans hgrow1)
  go_wp2
  (try simp only [Exit.inBlock, Exit.then])
  refine bodyPost_ret (results_none rfl _ _ _) rfl ?_
  refine ⟨_, rfl, ⟨(HG1.out.block L hltL (fun e => HL.out.ne (by injection e))).trans HL.out.cell, _, hown1, ?_⟩, HG1.out⟩
  exact agree_put (owns_isMap law3 HO.out) HA.out

set_option maxRecDepth 20000 in
set_option maxHeartbeats 2000000 in
theorem lost_3 (L M n : Nat) (f : Int → Option Book) (id : Int) (hid : (Lit.int .i64 id).wf = true) (hn : n < 1048576) (hb : ((f id).getD Book.zero).low 4611686018) (w : World) (hl : Led w L M n f) :
    Calls Try.prog 64 #[.pointer (some ⟨L, 0, none⟩), .int .i64 id, .int .i64 3] w (Wrote w L M (n + 1) (fun i => if i = id then some { (f id).getD Book.zero with l3 := ((f id).getD Book.zero).l3 + 1 } else f i)) := by
  obtain ⟨D, hown, hA⟩ := hl.map
  have hat := (hA id).2
  have hkey := keyOf_int_mk (P := Try.prog) (k := 3) Try.underlying3 hid
  have hcL : w.cell? ⟨L, 0, none⟩ = some (.map (some M)) := by simp [World.cell?, hl.cell]
  have hltL := lt_of_get hl.cell
  have hltM := hl.lt
  have HA := Lib.hid hA; have HL := Lib.hid hl; have HO := Lib.hid hown
  have hmx : n < maxLen := by unfold maxLen; omega
  generalize (f id).getD Book.zero = b at *
  have hlo : 0 ≤ b.l3 ∧ b.l3 ≤ 4611686018 := by unfold Book.low at hb; omega
  obtain ⟨b1, b2⟩ := hlo
  clear hown hA hl hb
  go_enter Try.func64, Try.ntmps64
  go_upto_region 3 with (first | (at_lookup; refine wpList_look_book _ (by rfl) _ _ 154 (by rfl) 3 153 law3 Try.underlying154 (zeroB _) M n D (by rfl) HO.out _ _ (by rfl) hkey b hat ?_; unfold Book.agg))
  generalize hW : World.alloc w _ = W
  have hg : ∀ (i : Nat) (v : Value), #[Value.int .i64 b.got, Value.int .i64 b.gotB, Value.int .i64 b.sent, Value.int .i64 b.sentB, Value.int .i64 b.l0, Value.int .i64 b.l1, Value.int .i64 b.l2, Value.int .i64 (b.l3 + 1), Value.int .i64 b.l4, Value.int .i64 b.l5][i]? = some v → W.cell? ⟨w.heap.size, i, none⟩ = some v := by intro i v hv; rw [← hW]; exact new_any w _ _ i v hv
  have g0 := hg 0 _ rfl
  have g1 := hg 1 _ rfl
  have g2 := hg 2 _ rfl
  have g3 := hg 3 _ rfl
  have g4 := hg 4 _ rfl
  have g5 := hg 5 _ rfl
  have g6 := hg 6 _ rfl
  have g7 := hg 7 _ rfl
  have g8 := hg 8 _ rfl
  have g9 := hg 9 _ rfl
  have hcW : W.cell? ⟨L, 0, none⟩ = some (.map (some M)) := by rw [← hW]; exact Lib.cell?_alloc_some _ hcL
  have HOW : Hid (W.drew.ownsMap Try.prog 3 bookElem M n D) := by rw [← hW]; exact Lib.hid (HO.out.alloc _)
  have HGW : Hid (w.grownBy W.drew none) := by rw [← hW]; exact Lib.hid ⟨rfl, rfl, rfl, by simp, fun k hk _ => Below.heap_alloc w _ k hk⟩
  have hWs : w.heap.size < W.heap.size := by rw [← hW]; simp
  clear hg hW hcL
  go_still_tail 6, (by kernel_rfl)
  change wpList _ _ _ _ _ (World.drew _)
  refine wpList_mapUpdate_own _ (by rfl) _ _ _ 154 (by rfl) 3 153 law3 Try.underlying154 _ M n D (by rfl) HOW.out hmx _ (Book.agg ⟨b.got, b.gotB, b.sent, b.sentB, b.l0, b.l1, b.l2, (b.l3 + 1), b.l4, b.l5⟩) _ (by rfl) (by rfl) hkey _ [] (bookElem_mk _) ?_
  intro w1 hown1 hgrow1
  have HG1 : Hid (w.grownBy w1 (some M)) := Lib.hid ((grown_but HGW.out (some M)).trans hgrow1)
  go_wp2
  (try simp only [Exit.inBlock, Exit.then])
  refine bodyPost_ret (results_none rfl _ _ _) rfl ?_
  refine ⟨_, rfl, ⟨(HG1.out.block L hltL (fun e => HL.out.ne (by injection e))).trans HL.out.cell, _, hown1, ?_⟩, HG1.out⟩
  exact agree_put (owns_isMap law3 HO.out) HA.out

set_option maxRecDepth 20000 in
set_option maxHeartbeats 2000000 in
theorem lost_4 (L M n : Nat) (f : Int → Option Book) (id : Int) (hid : (Lit.int .i64 id).wf = true) (hn : n < 1048576) (hb : ((f id).getD Book.zero).low 4611686018) (w : World) (hl : Led w L M n f) :
    Calls Try.prog 64 #[.pointer (some ⟨L, 0, none⟩), .int .i64 id, .int .i64 4] w (Wrote w L M (n + 1) (fun i => if i = id then some { (f id).getD Book.zero with l4 := ((f id).getD Book.zero).l4 + 1 } else f i)) := by
  obtain ⟨D, hown, hA⟩ := hl.map
  have hat := (hA id).2
  have hkey := keyOf_int_mk (P := Try.prog) (k := 3) Try.underlying3 hid
  have hcL : w.cell? ⟨L, 0, none⟩ = some (.map (some M)) := by simp [World.cell?, hl.cell]
  have hltL := lt_of_get hl.cell
  have hltM := hl.lt
  have HA := Lib.hid hA; have HL := Lib.hid hl; have HO := Lib.hid hown
  have hmx : n < maxLen := by unfold maxLen; omega
  generalize (f id).getD Book.zero = b at *
  have hlo : 0 ≤ b.l4 ∧ b.l4 ≤ 4611686018 := by unfold Book.low at hb; omega
  obtain ⟨b1, b2⟩ := hlo
  clear hown hA hl hb
  go_enter Try.func64, Try.ntmps64
  go_upto_region 3 with (first | (at_lookup; refine wpList_look_book _ (by rfl) _ _ 154 (by rfl) 3 153 law3 Try.underlying154 (zeroB _) M n D (by rfl) HO.out _ _ (by rfl) hkey b hat ?_; unfold Book.agg))
  generalize hW : World.alloc w _ = W
  have hg : ∀ (i : Nat) (v : Value), #[Value.int .i64 b.got, Value.int .i64 b.gotB, Value.int .i64 b.sent, Value.int .i64 b.sentB, Value.int .i64 b.l0, Value.int .i64 b.l1, Value.int .i64 b.l2, Value.int .i64 b.l3, Value.int .i64 (b.l4 + 1), Value.int .i64 b.l5][i]? = some v → W.cell? ⟨w.heap.size, i, none⟩ = some v := by intro i v hv; rw [← hW]; exact new_any w _ _ i v hv
  have g0 := hg 0 _ rfl
  have g1 := hg 1 _ rfl
  have g2 := hg 2 _ rfl
  have g3 := hg 3 _ rfl
  have g4 := hg 4 _ rfl
  have g5 := hg 5 _ rfl
  have g6 := hg 6 _ rfl
  have g7 := hg 7 _ rfl
  have g8 := hg 8 _ rfl
  have g9 := hg 9 _ rfl
  have hcW : W.cell? ⟨L, 0, none⟩ = some (.map (some M)) := by rw [← hW]; exact Lib.cell?_alloc_some _ hcL
  have HOW : Hid (W.drew.ownsMap Try.prog 3 bookElem M n D) := by rw [← hW]; exact Lib.hid (HO.out.alloc _)
  have HGW : Hid (w.grownBy W.drew none) := by rw [← hW]; exact Lib.hid ⟨rfl, rfl, rfl, by simp, fun k hk _ => Below.heap_alloc w _ k hk⟩
  have hWs : w.heap.size < W.heap.size := by rw [← hW]; simp
  clear hg hW hcL
  go_still_tail 6, (by kernel_rfl)
  change wpList _ _ _ _ _ (World.drew _)
  refine wpList_mapUpdate_own _ (by rfl) _ _ _ 154 (by rfl) 3 153 law3 Try.underlying154 _ M n D (by rfl) HOW.out hmx _ (Book.agg ⟨b.got, b.gotB, b.sent, b.sentB, b.l0, b.l1, b.l2, b.l3, (b.l4 + 1), b.l5⟩) _ (by rfl) (by rfl) hkey _ [] (bookElem_mk _) ?_
  intro w1 hown1 hgrow1
  have HG1 : Hid (w.grownBy w1 (some M)) := Lib.hid ((grown_but HGW.out (some M)).trans hgrow1)
  go_wp2
  (try simp only [Exit.inBlock, Exit.then])
  refine bodyPost_ret (results_none rfl _ _ _) rfl ?_
  refine ⟨_, rfl, ⟨(HG1.out.block L hltL (fun e => HL.out.ne (by injection e))).trans HL.out.cell, _, hown1, ?_⟩, HG1.out⟩
  exact agree_put (owns_isMap law3 HO.out) HA.out

set_option maxRecDepth 20000 in
set_option maxHeartbeats 2000000 in
theorem lost_5 (L M n : Nat) (f : Int → Option Book) (id : Int) (hid : (Lit.int .i64 id).wf = true) (hn : n < 1048576) (hb : ((f id).getD Book.zero).low 4611686018) (w : World) (hl : Led w L M n f) :
    Calls Try.prog 64 #[.pointer (some ⟨L, 0, none⟩), .int .i64 id, .int .i64 5] w (Wrote w L M (n + 1) (fun i => if i = id then some { (f id).getD Book.zero with l5 := ((f id).getD Book.zero).l5 + 1 } else f i)) := by
  obtain ⟨D, hown, hA⟩ := hl.map
  have hat := (hA id).2
  have hkey := keyOf_int_mk (P := Try.prog) (k := 3) Try.underlying3 hid
  have hcL : w.cell? ⟨L, 0, none⟩ = some (.map (some M)) := by simp [World.cell?, hl.cell]
  have hltL := lt_of_get hl.cell
  have hltM := hl.lt
  have HA := Lib.hid hA; have HL := Lib.hid hl; have HO := Lib.hid hown
  have hmx : n < maxLen := by unfold maxLen; omega
  generalize (f id).getD Book.zero = b at *
  have hlo : 0 ≤ b.l5 ∧ b.l5 ≤ 4611686018 := by unfold Book.low at hb; omega
  obtain ⟨b1, b2⟩ := hlo
  clear hown hA hl hb
  go_enter Try.func64, Try.ntmps64
  go_upto_region 3 with (first | (at_lookup; refine wpList_look_book _ (by rfl) _ _ 154 (by rfl) 3 153 law3 Try.underlying154 (zeroB _) M n D (by rfl) HO.out _ _ (by rfl) hkey b hat ?_; unfold Book.agg))
  generalize hW : World.alloc w _ = W
  have hg : ∀ (i : Nat) (v : Value), #[Value.int .i64 b.got, Value.int .i64 b.gotB, Value.int .i64 b.sent, Value.int .i64 b.sentB, Value.int .i64 b.l0, Value.int .i64 b.l1, Value.int .i64 b.l2, Value.int .i64 b.l3, Value.int .i64 b.l4, Value.int .i64 (b.l5 + 1)][i]? = some v → W.cell? ⟨w.heap.size, i, none⟩ = some v := by intro i v hv; rw [← hW]; exact new_any w _ _ i v hv
  have g0 := hg 0 _ rfl
  have g1 := hg 1 _ rfl
  have g2 := hg 2 _ rfl
  have g3 := hg 3 _ rfl
  have g4 := hg 4 _ rfl
  have g5 := hg 5 _ rfl
  have g6 := hg 6 _ rfl
  have g7 := hg 7 _ rfl
  have g8 := hg 8 _ rfl
  have g9 := hg 9 _ rfl
  have hcW : W.cell? ⟨L, 0, none⟩ = some (.map (some M)) := by rw [← hW]; exact Lib.cell?_alloc_some _ hcL
  have HOW : Hid (W.drew.ownsMap Try.prog 3 bookElem M n D) := by rw [← hW]; exact Lib.hid (HO.out.alloc _)
  have HGW : Hid (w.grownBy W.drew none) := by rw [← hW]; exact Lib.hid ⟨rfl, rfl, rfl, by simp, fun k hk _ => Below.heap_alloc w _ k hk⟩
  have hWs : w.heap.size < W.heap.size := by rw [← hW]; simp
  clear hg hW hcL
  go_still_tail 6, (by kernel_rfl)
  change wpList _ _ _ _ _ (World.drew _)
  refine wpList_mapUpdate_own _ (by rfl) _ _ _ 154 (by rfl) 3 153 law3 Try.underlying154 _ M n D (by rfl) HOW.out hmx _ (Book.agg ⟨b.got, b.gotB, b.sent, b.sentB, b.l0, b.l1, b.l2, b.l3, b.l4, (b.l5 + 1)⟩) _ (by rfl) (by rfl) hkey _ [] (bookElem_mk _) ?_
  intro w1 hown1 hgrow1
  have HG1 : Hid (w.grownBy w1 (some M)) := Lib.hid ((grown_but HGW.out (some M)).trans hgrow1)
  go_wp2
  (try simp only [Exit.inBlock, Exit.then])
  refine bodyPost_ret (results_none rfl _ _ _) rfl ?_
  refine ⟨_, rfl, ⟨(HG1.out.block L hltL (fun e => HL.out.ne (by injection e))).trans HL.out.cell, _, hown1, ?_⟩, HG1.out⟩
  exact agree_put (owns_isMap law3 HO.out) HA.out

theorem lost_good (L M n : Nat) (f : Int → Option Book) (id r : Int) (hid : (Lit.int .i64 id).wf = true) (hn : n < 1048576) (hb : ((f id).getD Book.zero).low 4611686018) (hr : 1 ≤ r ∧ r ≤ 5) (w : World) (hl : Led w L M n f) :
    Calls Try.prog 64 #[.pointer (some ⟨L, 0, none⟩), .int .i64 id, .int .i64 r] w (Wrote w L M (n + 1) (fun i => if i = id then some (bump ((f id).getD Book.zero) r) else f i)) := by
  obtain rfl | rfl | rfl | rfl | rfl : r = 1 ∨ r = 2 ∨ r = 3 ∨ r = 4 ∨ r = 5 := by omega
  · exact lost_1 L M n f id hid hn hb w hl
  · exact lost_2 L M n f id hid hn hb w hl
  · exact lost_3 L M n f id hid hn hb w hl
  · exact lost_4 L M n f id hid hn hb w hl
  · exact lost_5 L M n f id hid hn hb w hl

set_option maxRecDepth 20000 in
theorem new_c (w : World) : Calls Try.prog 126 #[] w fun e w' => e = .returned (.pointer (some ⟨w.heap.size + 1, 0, none⟩)) ∧ w' = (w.alloc (.map #[] 0)).alloc (.cells #[.map (some w.heap.size)] 156) := by
  have hmm := @run_makeMap Try.prog
  go_enter Try.func126, Try.ntmps126
  go_wp2
  go_ret
  exact ⟨rfl, rfl⟩
theorem new_led (w : World) : Led ((w.alloc (.map #[] 0)).alloc (.cells #[.map (some w.heap.size)] 156)) (w.heap.size + 1) w.heap.size 0 (fun _ => none) :=
  ⟨by have := heap_alloc_new (w.alloc (.map #[] 0)) (.cells #[.map (some w.heap.size)] 156); simpa using this,
   _, (World.ownsMap_made w _ _ _).alloc _, agree_empty⟩
end Go.Proofs.Ytdoemgccmjddcaa.Ld
