/- Of, Reason: the program's. -/
import Derived.Test.YtdoemgccmjddcaaLd5
import Derived.Test.YtdoemgccmjddcaaSw
namespace Go.Proofs.Ytdoemgccmjddcaa.Ld
open Go.RowKit Go.Maps Wd Li Sr Sw

theorem cells_of {w : World} {g : Nat} {cs : Array Value} {e : TypeId} (h : w.heap[g]? = some (.cells cs e (0, 0))) : ∀ (i : Nat) (v : Value), cs[i]? = some v → w.cell? ⟨g, i, none⟩ = some v := by
  intro i v hv
  unfold World.cell?
  rw [h]
  simp [hv]
theorem block_new {w w2 : World} {o : Obj} (hb : Below (w.alloc o).heap.size (w.alloc o) w2) : w2.heap[w.heap.size]? = some o :=
  (hb.block _ (by simp)).trans (heap_alloc_new w o)

set_option maxRecDepth 20000 in
set_option maxHeartbeats 2000000 in
theorem of_c (L M n : Nat) (f : Int → Option Book) (id : Int) (hid : (Lit.int .i64 id).wf = true) (hb : ((f id).getD Book.zero).low 4611686018) (w : World) (hl : Led w L M n f) :
    Calls Try.prog 54 #[.pointer (some ⟨L, 0, none⟩), .int .i64 id] w fun e w' => e = .returned (statS ((f id).getD Book.zero)).agg ∧ Below w.heap.size w w' := by
  obtain ⟨D, hown, hA⟩ := hl.map
  have hat := (hA id).2
  have hkey := keyOf_int_mk (P := Try.prog) (k := 3) Try.underlying3 hid
  have hcL : w.cell? ⟨L, 0, none⟩ = some (.map (some M)) := by simp [World.cell?, hl.cell]
  have hltL := lt_of_get hl.cell
  have hltM := hl.lt
  have HO := Lib.hid hown
  generalize (f id).getD Book.zero = b at *
  have hst := stat_c b hb
  have HST := Lib.hid hst
  clear hown hA hl hb hst
  unfold Book.agg Stat.agg at HST
  unfold Stat.agg
  generalize statS b = s at *
  go_enter Try.func54, Try.ntmps54
  go_wp2_with (first
    | (at_lookup; refine wpList_look_book _ (by rfl) _ _ 154 (by rfl) 3 153 law3 Try.underlying154 (zeroB _) M n D (by rfl) (HO.out.alloc _) _ _ (by rfl) hkey b hat ?_; unfold Book.agg)
    | (go_at_call 127; refine (HST.out _).mono ?_; rintro e w2 ⟨rfl, hb2⟩; have hbl := Lib.hid (block_new hb2); have HB2 := Lib.hid (((Below.refl _ w).alloc (Nat.le_refl _) _).trans (hb2.mono (by simp))); clear hb2)
    | (refine wpList_store_whole (by rfl) 82 _ _ (by rfl) 6 Try.sizeOf82 w.heap.size _ _ 82 (by rfl) (by rfl) hbl.out (by rfl) (by rfl) (by simp [Value.oneCell']) ?_; intro w3 hb3 hg3; have r0 := cells_of hb3 0 _ rfl; have r1 := cells_of hb3 1 _ rfl; have r2 := cells_of hb3 2 _ rfl; have r3 := cells_of hb3 3 _ rfl; have r4 := cells_of hb3 4 _ rfl; have r5 := cells_of hb3 5 _ rfl; have HB3 := Lib.hid (HB2.out.grown hg3 HB2.out.size (fun k hk => by cases hk; exact Nat.le_refl _)); clear hb3 hg3))
  (try simp only [Exit.inBlock, Exit.then])
  refine bodyPost_ret (v := .agg #[.int .i64 s.got, .int .i64 s.gotB, .int .i64 s.sent, .int .i64 s.sentB, .int .i64 s.lost, .int .i64 s.wait]) (by simp [results, Try.results54, go_sem, r0, r1, r2, r3, r4, r5]) rfl ⟨rfl, ?_⟩
  exact HB3.out
theorem lost_field (a b c d l0 l1 l2 l3 l4 l5 : Int) (w : World) : (Instr.field 153 (.agg #[.int .i64 a, .int .i64 b, .int .i64 c, .int .i64 d, .int .i64 l0, .int .i64 l1, .int .i64 l2, .int .i64 l3, .int .i64 l4, .int .i64 l5]) 4).run Try.prog w = .ok (.agg #[.int .i64 l0, .int .i64 l1, .int .i64 l2, .int .i64 l3, .int .i64 l4, .int .i64 l5]) w := by kernel_rfl
def lossOf (b : Book) (r : Int) : Int := if r = 1 then b.l1 else if r = 2 then b.l2 else if r = 3 then b.l3 else if r = 4 then b.l4 else if r = 5 then b.l5 else 0
set_option maxRecDepth 20000 in
theorem reason_bad (L : Nat) (id r : Int) (hr : r < 1 ∨ 5 < r) (w : World) :
    Calls Try.prog 56 #[.pointer (some ⟨L, 0, none⟩), .int .i64 id, .int .i64 r] w fun e w' => e = .returned (.int .i64 0) ∧ w' = w := by
  by_cases h1 : r ≤ 0
  · have e1 : decide (r ≤ 0) = true := decide_eq_true h1
    clear hr
    go_enter Try.func56, Try.ntmps56
    go_wp2
    go_ret
    exact ⟨rfl, rfl⟩
  · have e1 : decide (r ≤ 0) = false := decide_eq_false h1
    have e2 : decide (6 ≤ r) = true := decide_eq_true (by omega)
    clear hr
    go_enter Try.func56, Try.ntmps56
    go_wp2
    go_ret
    exact ⟨rfl, rfl⟩

set_option maxRecDepth 20000 in
set_option maxHeartbeats 1000000 in
theorem reason_1 (L M n : Nat) (f : Int → Option Book) (id : Int) (hid : (Lit.int .i64 id).wf = true) (w : World) (hl : Led w L M n f) :
    Calls Try.prog 56 #[.pointer (some ⟨L, 0, none⟩), .int .i64 id, .int .i64 1] w fun e w' => e = .returned (.int .i64 ((f id).getD Book.zero).l1) ∧ w' = w := by
  obtain ⟨D, hown, hA⟩ := hl.map
  have hat := (hA id).2
  have hkey := keyOf_int_mk (P := Try.prog) (k := 3) Try.underlying3 hid
  have hcL : w.cell? ⟨L, 0, none⟩ = some (.map (some M)) := by simp [World.cell?, hl.cell]
  have HO := Lib.hid hown
  generalize (f id).getD Book.zero = b at *
  have hix := ix1 b.l0 b.l1 b.l2 b.l3 b.l4 b.l5
  have hfl := lost_field b.got b.gotB b.sent b.sentB b.l0 b.l1 b.l2 b.l3 b.l4 b.l5
  clear hown hA hl
  go_enter Try.func56, Try.ntmps56
  go_wp2_with (first | (at_lookup; refine wpList_look_book _ (by rfl) _ _ 154 (by rfl) 3 153 law3 Try.underlying154 (zeroB _) M n D (by rfl) HO.out _ _ (by rfl) hkey b hat ?_; unfold Book.agg))
  go_ret
  exact ⟨rfl, rfl⟩

set_option maxRecDepth 20000 in
set_option maxHeartbeats 1000000 in
theorem reason_2 (L M n : Nat) (f : Int → Option Book) (id : Int) (hid : (Lit.int .i64 id).wf = true) (w : World) (hl : Led w L M n f) :
    Calls Try.prog 56 #[.pointer (some ⟨L, 0, none⟩), .int .i64 id, .int .i64 2] w fun e w' => e = .returned (.int .i64 ((f id).getD Book.zero).l2) ∧ w' = w := by
  obtain ⟨D, hown, hA⟩ := hl.map
  have hat := (hA id).2
  have hkey := keyOf_int_mk (P := Try.prog) (k := 3) Try.underlying3 hid
  have hcL : w.cell? ⟨L, 0, none⟩ = some (.map (some M)) := by simp [World.cell?, hl.cell]
  have HO := Lib.hid hown
  generalize (f id).getD Book.zero = b at *
  have hix := ix2 b.l0 b.l1 b.l2 b.l3 b.l4 b.l5
  have hfl := lost_field b.got b.gotB b.sent b.sentB b.l0 b.l1 b.l2 b.l3 b.l4 b.l5
  clear hown hA hl
  go_enter Try.func56, Try.ntmps56
  go_wp2_with (first | (at_lookup; refine wpList_look_book _ (by rfl) _ _ 154 (by rfl) 3 153 law3 Try.underlying154 (zeroB _) M n D (by rfl) HO.out _ _ (by rfl) hkey b hat ?_; unfold Book.agg))
  go_ret
  exact ⟨rfl, rfl⟩

set_option maxRecDepth 20000 in
set_option maxHeartbeats 1000000 in
theorem reason_3 (L M n : Nat) (f : Int → Option Book) (id : Int) (hid : (Lit.int .i64 id).wf = true) (w : World) (hl : Led w L M n f) :
    Calls Try.prog 56 #[.pointer (some ⟨L, 0, none⟩), .int .i64 id, .int .i64 3] w fun e w' => e = .returned (.int .i64 ((f id).getD Book.zero).l3) ∧ w' = w := by
  obtain ⟨D, hown, hA⟩ := hl.map
  have hat := (hA id).2
  have hkey := keyOf_int_mk (P := Try.prog) (k := 3) Try.underlying3 hid
  have hcL : w.cell? ⟨L, 0, none⟩ = some (.map (some M)) := by simp [World.cell?, hl.cell]
  have HO := Lib.hid hown
  generalize (f id).getD Book.zero = b at *
  have hix := ix3 b.l0 b.l1 b.l2 b.l3 b.l4 b.l5
  have hfl := lost_field b.got b.gotB b.sent b.sentB b.l0 b.l1 b.l2 b.l3 b.l4 b.l5
  clear hown hA hl
  go_enter Try.func56, Try.ntmps56
  go_wp2_with (first | (at_lookup; refine wpList_look_book _ (by rfl) _ _ 154 (by rfl) 3 153 law3 Try.underlying154 (zeroB _) M n D (by rfl) HO.out _ _ (by rfl) hkey b hat ?_; unfold Book.agg))
  go_ret
  exact ⟨rfl, rfl⟩

set_option maxRecDepth 20000 in
set_option maxHeartbeats 1000000 in
theorem reason_4 (L M n : Nat) (f : Int → Option Book) (id : Int) (hid : (Lit.int .i64 id).wf = true) (w : World) (hl : Led w L M n f) :
    Calls Try.prog 56 #[.pointer (some ⟨L, 0, none⟩), .int .i64 id, .int .i64 4] w fun e w' => e = .returned (.int .i64 ((f id).getD Book.zero).l4) ∧ w' = w := by
  obtain ⟨D, hown, hA⟩ := hl.map
  have hat := (hA id).2
  have hkey := keyOf_int_mk (P := Try.prog) (k := 3) Try.underlying3 hid
  have hcL : w.cell? ⟨L, 0, none⟩ = some (.map (some M)) := by simp [World.cell?, hl.cell]
  have HO := Lib.hid hown
  generalize (f id).getD Book.zero = b at *
  have hix := ix4 b.l0 b.l1 b.l2 b.l3 b.l4 b.l5
  have hfl := lost_field b.got b.gotB b.sent b.sentB b.l0 b.l1 b.l2 b.l3 b.l4 b.l5
  clear hown hA hl
  go_enter Try.func56, Try.ntmps56
  go_wp2_with (first | (at_lookup; refine wpList_look_book _ (by rfl) _ _ 154 (by rfl) 3 153 law3 Try.underlying154 (zeroB _) M n D (by rfl) HO.out _ _ (by rfl) hkey b hat ?_; unfold Book.agg))
  go_ret
  exact ⟨rfl, rfl⟩

set_option maxRecDepth 20000 in
set_option maxHeartbeats 1000000 in
theorem reason_5 (L M n : Nat) (f : Int → Option Book) (id : Int) (hid : (Lit.int .i64 id).wf = true) (w : World) (hl : Led w L M n f) :
    Calls Try.prog 56 #[.pointer (some ⟨L, 0, none⟩), .int .i64 id, .int .i64 5] w fun e w' => e = .returned (.int .i64 ((f id).getD Book.zero).l5) ∧ w' = w := by
  obtain ⟨D, hown, hA⟩ := hl.map
  have hat := (hA id).2
  have hkey := keyOf_int_mk (P := Try.prog) (k := 3) Try.underlying3 hid
  have hcL : w.cell? ⟨L, 0, none⟩ = some (.map (some M)) := by simp [World.cell?, hl.cell]
  have HO := Lib.hid hown
  generalize (f id).getD Book.zero = b at *
  have hix := ix5 b.l0 b.l1 b.l2 b.l3 b.l4 b.l5
  have hfl := lost_field b.got b.gotB b.sent b.sentB b.l0 b.l1 b.l2 b.l3 b.l4 b.l5
  clear hown hA hl
  go_enter Try.func56, Try.ntmps56
  go_wp2_with (first | (at_lookup; refine wpList_look_book _ (by rfl) _ _ 154 (by rfl) 3 153 law3 Try.underlying154 (zeroB _) M n D (by rfl) HO.out _ _ (by rfl) hkey b hat ?_; unfold Book.agg))
  go_ret
  exact ⟨rfl, rfl⟩

theorem reason_c (L M n : Nat) (f : Int → Option Book) (id r : Int) (hid : (Lit.int .i64 id).wf = true) (w : World) (hl : Led w L M n f) :
    Calls Try.prog 56 #[.pointer (some ⟨L, 0, none⟩), .int .i64 id, .int .i64 r] w fun e w' => e = .returned (.int .i64 (lossOf ((f id).getD Book.zero) r)) ∧ w' = w := by
  by_cases hr : r < 1 ∨ 5 < r
  · have : lossOf ((f id).getD Book.zero) r = 0 := by unfold lossOf; rw [if_neg (by omega), if_neg (by omega), if_neg (by omega), if_neg (by omega), if_neg (by omega)]
    rw [this]
    exact reason_bad L id r hr w
  · obtain rfl | rfl | rfl | rfl | rfl : r = 1 ∨ r = 2 ∨ r = 3 ∨ r = 4 ∨ r = 5 := by omega
    · exact reason_1 L M n f id hid w hl
    · exact reason_2 L M n f id hid w hl
    · exact reason_3 L M n f id hid w hl
    · exact reason_4 L M n f id hid w hl
    · exact reason_5 L M n f id hid w hl
end Go.Proofs.Ytdoemgccmjddcaa.Ld
