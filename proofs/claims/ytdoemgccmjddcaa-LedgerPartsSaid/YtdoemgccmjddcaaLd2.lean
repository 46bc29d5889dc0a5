/- Got, Sent, Lost, New. -/
import Derived.Test.YtdoemgccmjddcaaLd1
import Derived.Maps.OwnOps
import Derived.StillTailTactics
import Derived.Deep.RegionWith
import Derived.Deep.RegionLaw
namespace Go.Proofs.Ytdoemgccmjddcaa.Ld
open Go.RowKit Go.Maps Wd Li Sr

theorem zeroB (w : World) : (zeroValue 153).run Try.prog w = .ok Book.zero.agg w := by kernel_rfl

set_option maxRecDepth 20000 in
theorem held_c (n : Int) (w : World) : Calls Try.prog 133 #[.int .i64 n] w fun e w' => e = .returned (.int .i64 (size n)) ∧ w = w' := by
  by_cases h1 : n ≤ 2048
  · by_cases h2 : 0 ≤ n
    · have hs : size n = n := by unfold size; omega
      rw [hs]; clear hs
      go_enter Try.func133, Try.ntmps133
      go_wp2
      all_goals
        go_ret
        exact ⟨by first | rfl | (congr 2; omega) | (simp; omega), rfl⟩
    · have hs : size n = 0 := by unfold size; omega
      rw [hs]; clear hs
      go_enter Try.func133, Try.ntmps133
      go_wp2
      all_goals
        go_ret
        exact ⟨by first | rfl | (congr 2; omega), rfl⟩
  · have hs : size n = 2048 := by unfold size; omega
    rw [hs]; clear hs
    go_enter Try.func133, Try.ntmps133
    go_wp2
    all_goals
      go_ret
      exact ⟨by first | rfl | (congr 2; omega), rfl⟩
set_option maxRecDepth 20000 in
theorem add_c (a b : Int) (h : 0 ≤ a ∧ a ≤ 4611686018427 ∧ 0 ≤ b ∧ b ≤ 2048) (w : World) : Calls Try.prog 132 #[.int .i64 a, .int .i64 b] w fun e w' => e = .returned (.int .i64 (a + b)) ∧ w = w' := by
  obtain ⟨h1, h2, h3, h4⟩ := h
  have ha : hold a = a := by unfold hold; rw [if_neg (by omega), if_neg (by omega)]
  have hb : hold b = b := by unfold hold; rw [if_neg (by omega), if_neg (by omega)]
  have hc : hold (a + b) = a + b := by unfold hold; rw [if_neg (by omega), if_neg (by omega)]
  have ca := hold_c a; have cb := hold_c b; have cc := hold_c (a + b)
  rw [ha] at ca; rw [hb] at cb; rw [hc] at cc
  have CA := Lib.hid ca; have CB := Lib.hid cb; have CC := Lib.hid cc
  clear ha hb hc ca cb cc
  go_enter Try.func132, Try.ntmps132
  go_wp2_with (first
    | (go_at_call 145; refine (CA.out _).mono ?_; rintro e w' ⟨rfl, rfl⟩; clear CA)
    | (go_at_call 145; refine (CB.out _).mono ?_; rintro e w' ⟨rfl, rfl⟩; clear CB)
    | (go_at_call 145; refine (CC.out _).mono ?_; rintro e w' ⟨rfl, rfl⟩))
  go_ret
  exact ⟨rfl, rfl⟩

theorem new_any (w : World) (cs : Array Value) (t : TypeId) : ∀ (i : Nat) (v : Value), cs[i]? = some v → (w.alloc (.cells cs t)).cell? ⟨w.heap.size, i, none⟩ = some v := by
  intro i v hv
  have hh := heap_alloc_new w (.cells cs t)
  unfold World.cell?
  rw [hh]
  simp [hv]
theorem grown_but {a c : World} (h : a.grownBy c none) (row : Option Nat) : a.grownBy c row := ⟨h.os, h.tape, h.output, h.size, fun i hi _ => h.block i hi (by simp)⟩
/-- a ledger lies at L, its map at M -/
structure Led (w : World) (L M n : Nat) (f : Int → Option Book) : Prop where
  cell : w.heap[L]? = some (.cells #[.map (some M)] 156 (0, 0))
  map : ∃ D, w.ownsMap Try.prog 3 bookElem M n D ∧ Agree D f
theorem Led.ne {w : World} {L M n : Nat} {f : Int → Option Book} (h : Led w L M n f) : L ≠ M := by
  intro e
  obtain ⟨D, hown, _⟩ := h.map
  obtain ⟨es, ck, hm⟩ := owns_is_map hown
  rw [← e, h.cell] at hm; cases hm
theorem Led.lt {w : World} {L M n : Nat} {f : Int → Option Book} (h : Led w L M n f) : M < w.heap.size := by
  obtain ⟨D, hown, _⟩ := h.map
  exact hown.lt
theorem Led.below {w w' : World} {B L M n : Nat} {f : Int → Option Book} (h : Led w L M n f) (hb : Below B w w') (hL : L < B) (hM : M < B) : Led w' L M n f := by
  obtain ⟨D, ⟨es, ck, hm, r⟩, hA⟩ := h.map
  exact ⟨(hb.block L hL).trans h.cell, D, ⟨es, ck, (hb.block M hM).trans hm, r⟩, hA⟩

/-- what a call leaves that writes a book -/
def Wrote (w : World) (L M n : Nat) (f : Int → Option Book) (e : Ending) (w' : World) : Prop := ∃ v, e = .returned v ∧ Led w' L M n f ∧ w.grownBy w' (some M)

set_option maxRecDepth 20000 in
set_option maxHeartbeats 2000000 in
theorem got_c (L M n : Nat) (f : Int → Option Book) (id s : Int) (hid : (Lit.int .i64 id).wf = true) (hn : n < 1048576) (hb : ((f id).getD Book.zero).low 4611686018) (w : World) (hl : Led w L M n f) :
    Calls Try.prog 62 #[.pointer (some ⟨L, 0, none⟩), .int .i64 id, .int .i64 s] w (Wrote w L M (n + 1) (fun i => if i = id then some { (f id).getD Book.zero with got := ((f id).getD Book.zero).got + 1, gotB := ((f id).getD Book.zero).gotB + size s } else f i)) := by
  obtain ⟨D, hown, hA⟩ := hl.map
  have hat := (hA id).2
  have hkey := keyOf_int_mk (P := Try.prog) (k := 3) Try.underlying3 hid
  have hcL : w.cell? ⟨L, 0, none⟩ = some (.map (some M)) := by simp [World.cell?, hl.cell]
  have hltL := lt_of_get hl.cell
  have hltM := hl.lt
  have HA := Lib.hid hA; have HL := Lib.hid hl; have HO := Lib.hid hown
  have hmx : n < maxLen := by unfold maxLen; omega
  generalize (f id).getD Book.zero = b at *
  obtain ⟨b1, b2, b3, b4, hrest⟩ := hb
  clear hrest
  have hs1 := size_ge s; have hs2 := size_le s
  have cadd := add_c b.gotB (size s) ⟨by omega, by omega, by omega, by omega⟩
  have HADD := Lib.hid cadd
  clear hown hA hl cadd
  go_enter Try.func62, Try.ntmps62
  go_upto_region 3 with (first | (at_lookup; refine wpList_look_book _ (by rfl) _ _ 154 (by rfl) 3 153 law3 Try.underlying154 (zeroB _) M n D (by rfl) HO.out _ _ (by rfl) hkey b hat ?_; unfold Book.agg))
  have HHELD := Lib.hid (held_c s)
  go_region_with (first
    | (go_at_call 133; refine (HHELD.out _).mono ?_; rintro e w' ⟨rfl, rfl⟩)
    | (go_at_call 132; refine (HADD.out _).mono ?_; rintro e w' ⟨rfl, rfl⟩))
  all_goals
    go_upto_region 4 with fail
    generalize hW : World.drew (World.alloc _ _) = W
    have hg : ∀ (i : Nat) (v : Value), #[Value.int .i64 (b.got + 1), Value.int .i64 (b.gotB + size s), Value.int .i64 b.sent, Value.int .i64 b.sentB, Value.int .i64 b.l0, Value.int .i64 b.l1, Value.int .i64 b.l2, Value.int .i64 b.l3, Value.int .i64 b.l4, Value.int .i64 b.l5][i]? = some v → W.cell? ⟨w.heap.size, i, none⟩ = some v := by intro i v hv; rw [← hW]; exact new_any w _ _ i v hv
    have g0 := hg 0 _ rfl
    have g1 := hg 1 _ rfl
    have g2 := hg 2 _ rfl
    have g3 := hg 3 _ rfl
    have g4 := hg 4 _ rfl
    have g5 := hg 5 _ rfl
    have g6 := hg 6 _ rfl
    have g7 := hg 7 _ rfl
    have g8 := hg 8 _ rfl
    have g9 := hg 9 _ rfl
    have hcW : W.cell? ⟨L, 0, none⟩ = some (.map (some M)) := by rw [← hW]; exact Lib.cell?_alloc_some _ hcL
    have HOW : Hid (W.drew.ownsMap Try.prog 3 bookElem M n D) := by rw [← hW]; exact Lib.hid (HO.out.alloc _)
    have HGW : Hid (w.grownBy W.drew none) := by rw [← hW]; exact Lib.hid ⟨rfl, rfl, rfl, by simp, fun k hk _ => Below.heap_alloc w _ k hk⟩
    have hWs : w.heap.size < W.heap.size := by rw [← hW]; simp
    clear hg hW hcL
    go_still_tail 6, (by kernel_rfl)
    change wpList _ _ _ _ _ (World.drew _)
    refine wpList_mapUpdate_own _ (by rfl) _ _ _ 154 (by rfl) 3 153 law3 Try.underlying154 _ M n D (by rfl) HOW.out hmx _ (Book.agg ⟨(b.got + 1), (b.gotB + size s), b.sent, b.sentB, b.l0, b.l1, b.l2, b.l3, b.l4, b.l5⟩) _ (by rfl) (by rfl) hkey _ [] (bookElem_mk _) ?_
    intro w1 hown1 hgrow1
    have HG1 : Hid (w.grownBy w1 (some M)) := Lib.hid ((grown_but HGW.out (some M)).trans hgrow1)
    go_wp2
    (try simp only [Exit.inBlock, Exit.then])
    refine bodyPost_ret (results_none rfl _ _ _) rfl ?_
    refine ⟨_, rfl, ⟨(HG1.out.block L hltL (fun e => HL.out.ne (by injection e))).trans HL.out.cell, _, hown1, ?_⟩, HG1.out⟩
    exact agree_put (owns_isMap law3 HO.out) HA.out
set_option maxRecDepth 20000 in
set_option maxHeartbeats 2000000 in
theorem sent_c (L M n : Nat) (f : Int → Option Book) (id s : Int) (hid : (Lit.int .i64 id).wf = true) (hn : n < 1048576) (hb : ((f id).getD Book.zero).low 4611686018) (w : World) (hl : Led w L M n f) :
    Calls Try.prog 63 #[.pointer (some ⟨L, 0, none⟩), .int .i64 id, .int .i64 s] w (Wrote w L M (n + 1) (fun i => if i = id then some { (f id).getD Book.zero with sent := ((f id).getD Book.zero).sent + 1, sentB := ((f id).getD Book.zero).sentB + size s } else f i)) := by
  obtain ⟨D, hown, hA⟩ := hl.map
  have hat := (hA id).2
  have hkey := keyOf_int_mk (P := Try.prog) (k := 3) Try.underlying3 hid
  have hcL : w.cell? ⟨L, 0, none⟩ = some (.map (some M)) := by simp [World.cell?, hl.cell]
  have hltL := lt_of_get hl.cell
  have hltM := hl.lt
  have HA := Lib.hid hA; have HL := Lib.hid hl; have HO := Lib.hid hown
  have hmx : n < maxLen := by unfold maxLen; omega
  generalize (f id).getD Book.zero = b at *
  obtain ⟨_, _, _, _, b1, b2, b3, b4, hrest⟩ := hb
  clear hrest
  have hs1 := size_ge s; have hs2 := size_le s
  have cadd := add_c b.sentB (size s) ⟨by omega, by omega, by omega, by omega⟩
  have HADD := Lib.hid cadd
  clear hown hA hl cadd
  go_enter Try.func63, Try.ntmps63
  go_upto_region 3 with (first | (at_lookup; refine wpList_look_book _ (by rfl) _ _ 154 (by rfl) 3 153 law3 Try.underlying154 (zeroB _) M n D (by rfl) HO.out _ _ (by rfl) hkey b hat ?_; unfold Book.agg))
  have HHELD := Lib.hid (held_c s)
  go_region_with (first
    | (go_at_call 133; refine (HHELD.out _).mono ?_; rintro e w' ⟨rfl, rfl⟩)
    | (go_at_call 132; refine (HADD.out _).mono ?_; rintro e w' ⟨rfl, rfl⟩))
  all_goals
    go_upto_region 4 with fail
    generalize hW : World.drew (World.alloc _ _) = W
    have hg : ∀ (i : Nat) (v : Value), #[Value.int .i64 b.got, Value.int .i64 b.gotB, Value.int .i64 (b.sent + 1), Value.int .i64 (b.sentB + size s), Value.int .i64 b.l0, Value.int .i64 b.l1, Value.int .i64 b.l2, Value.int .i64 b.l3, Value.int .i64 b.l4, Value.int .i64 b.l5][i]? = some v → W.cell? ⟨w.heap.size, i, none⟩ = some v := by intro i v hv; rw [← hW]; exact new_any w _ _ i v hv
    have g0 := hg 0 _ rfl
    have g1 := hg 1 _ rfl
    have g2 := hg 2 _ rfl
    have g3 := hg 3 _ rfl
    have g4 := hg 4 _ rfl
    have g5 := hg 5 _ rfl
    have g6 := hg 6 _ rfl
    have g7 := hg 7 _ rfl
    have g8 := hg 8 _ rfl
    have g9 := hg 9 _ rfl
    have hcW : W.cell? ⟨L, 0, none⟩ = some (.map (some M)) := by rw [← hW]; exact Lib.cell?_alloc_some _ hcL
    have HOW : Hid (W.drew.ownsMap Try.prog 3 bookElem M n D) := by rw [← hW]; exact Lib.hid (HO.out.alloc _)
    have HGW : Hid (w.grownBy W.drew none) := by rw [← hW]; exact Lib.hid ⟨rfl, rfl, rfl, by simp, fun k hk _ => Below.heap_alloc w _ k hk⟩
    have hWs : w.heap.size < W.heap.size := by rw [← hW]; simp
    clear hg hW hcL
    go_still_tail 6, (by kernel_rfl)
    change wpList _ _ _ _ _ (World.drew _)
    refine wpList_mapUpdate_own _ (by rfl) _ _ _ 154 (by rfl) 3 153 law3 Try.underlying154 _ M n D (by rfl) HOW.out hmx _ (Book.agg ⟨b.got, b.gotB, (b.sent + 1), (b.sentB + size s), b.l0, b.l1, b.l2, b.l3, b.l4, b.l5⟩) _ (by rfl) (by rfl) hkey _ [] (bookElem_mk _) ?_
    intro w1 hown1 hgrow1
    have HG1 : Hid (w.grownBy w1 (some M)) := Lib.hid ((grown_but HGW.out (some M)).trans hgrow1)
    go_wp2
    (try simp only [Exit.inBlock, Exit.then])
    refine bodyPost_ret (results_none rfl _ _ _) rfl ?_
    refine ⟨_, rfl, ⟨(HG1.out.block L hltL (fun e => HL.out.ne (by injection e))).trans HL.out.cell, _, hown1, ?_⟩, HG1.out⟩
    exact agree_put (owns_isMap law3 HO.out) HA.out
end Go.Proofs.Ytdoemgccmjddcaa.Ld
