/- Stats: Even and Off, the program's and the document's. -/
import Derived.Test.YtdoemgccmjddcaaSt2
namespace Go.Proofs.Ytdoemgccmjddcaa.St
open Go.RowKit Fl Wd
attribute [local go_sem] run_store_float

def sq (x : Nat) : Nat := fop .mul (cf x) (cf x)
def evenS (xs : List Nat) : Nat := fop .quo (fop .mul (tot xs) (tot xs)) (fop .mul (cf (floatOfInt .f64 xs.length)) (tot (xs.map sq)))

theorem tot_cf (ys zs : List Nat) (h : ys.map cf = zs.map cf) : tot ys = tot zs := by
  have key : ∀ (l : List Nat) (s : Nat), l.foldl (fun s x => fop .add s (cf x)) s = (l.map cf).foldl (fun s x => fop .add s x) s := by
    intro l
    induction l with
    | nil => intro s; rfl
    | cons a l ih => intro s; simp only [List.foldl_cons, List.map_cons]; exact ih _
  unfold tot; rw [key, key, h]

set_option maxRecDepth 20000 in
set_option maxHeartbeats 400000 in
theorem even_any (A : Option Addr) (c : Nat) (xs : List Nat) (hn : xs.length ≤ 1000) (w : World) (ha : Sl w w.heap.size 1 A xs.length (F xs)) :
    Calls Try.prog 26 #[.slice A xs.length c] w fun e w' => RetB w (evenS xs) e w' := by
  obtain ⟨i0, hi, hz0, hz1, hz2⟩ := info_parts info45
  have hmk := fun wx => run_make1 (P := Try.prog) 42 45 i0 (.float .f64 0) Try.underlying42 hi hz0 hz1 rfl .i64 .i64 xs.length (by omega) (by omega) wx
  clear hi hz0 hz1 hz2
  go_enter Try.func26, Try.ntmps26
  go_wp2
  go_loopw [4, 5, 12] (fun _ _ i wr => ∃ (k : Nat) (ys : List Nat), k ≤ xs.length ∧ i = .int .i64 k ∧ ys.length = k ∧ ys.map cf = (xs.take k).map sq ∧ Row wr w.heap.size 45 (F ys ++ List.replicate (xs.length - k) (.float .f64 0)) ∧ Below w.heap.size w wr)
    (fun _ _ i _ => xs.length - (intOf i).toNat)
  case atStart => exact ⟨0, [], Nat.zero_le _, rfl, rfl, rfl, by simpa [F] using row_new_rep w _ _ _, (Below.refl _ w).alloc (Nat.le_refl _) _⟩
  case round =>
    obtain ⟨k, ys, hk, rfl, hyl, hy, hrow, hb⟩ := hrel
    by_cases hlt : k < xs.length
    · obtain ⟨a, u, rfl, hab, hu, hc⟩ := (ha.below hb).cell1 hlt
      unfold F at hu
      simp only [List.getElem?_map] at hu
      obtain ⟨x, hxk, rfl⟩ := Option.map_eq_some_iff.1 hu
      have hcell := hrow.cell k
      have hfz := hrow.frozen k
      have hyl2 : (F ys).length = k := by unfold F; rw [List.length_map]; exact hyl
      have hlen : (F ys ++ List.replicate (xs.length - k) (Value.float .f64 0))[k]? = some (.float .f64 0) := by
        rw [List.getElem?_append_right (by omega), hyl2]
        rw [List.getElem?_replicate, if_pos (by omega)]
      rw [hlen] at hcell
      have Hxk := Lib.hid hxk; have Hrow := Lib.hid hrow; have Hy := Lib.hid hy; have Hyl := Lib.hid hyl; have Hyl2 := Lib.hid hyl2
      clear hu ha hxk hrow hlen hmk hy hyl hyl2
      go_wp2
      go_roundw
      case rel =>
        refine ⟨k + 1, ys ++ [fbits .mul x x wr], by omega, by go_num, by rw [List.length_append, Hyl.out]; rfl, ?_, ?_, below_drewN (hb.setCell (p := ⟨w.heap.size, k, none⟩) (Nat.le_refl _) _) _⟩
        · rw [List.map_append, Hy.out, List.take_add_one, Hxk.out, List.map_append]
          show _ ++ [cf (fbits .mul x x wr)] = _ ++ [sq x]
          rw [cf_fbits]; rfl
        · have := Hrow.out.set k (.float .f64 (fbits .mul x x wr))
          obtain ⟨m, hm⟩ : ∃ m, xs.length - k = m + 1 := ⟨xs.length - k - 1, by omega⟩
          have hm' : xs.length - (k + 1) = m := by omega
          rw [List.set_append_right _ _ (by rw [Hyl2.out]; omega), Hyl2.out, Nat.sub_self, hm, List.replicate_succ, List.set_cons_zero] at this
          rw [hm']
          unfold F at this ⊢
          rw [List.map_append, List.append_assoc]
          exact this
      case measure => simp [intOf]; omega
    · have hkl : k = xs.length := by omega
      subst hkl
      rw [List.take_length] at hy
      rw [Nat.sub_self, List.replicate_zero, List.append_nil] at hrow
      have Hrow := Lib.hid hrow; have Hy := Lib.hid hy; have Hyl := Lib.hid hyl
      have Ha := Lib.hid ha
      clear hrow hy hyl ha hmk
      go_wp2_with fail
      refine (total_any A c xs hn wr _ (Ha.out.below hb)).mono ?_; rintro e w' ⟨r, n, rfl, hr, hr2, rfl⟩
      have Hr := Lib.hid hr; clear hr
      go_wp2_with fail
      have hsl := (Row.sl (n := ys.length) (Hrow.out.drewN (n + fcount .mul r r)) (by unfold F; rw [List.length_map]))
      have ht := total_any (some ⟨w.heap.size, 0, none⟩) xs.length ys (by rw [Hyl.out]; exact hn) _ _ hsl
      rw [Hyl.out] at ht
      refine ht.mono ?_; rintro e w' ⟨r2, n2, rfl, hr2', hr2'', rfl⟩
      have Hr2 := Lib.hid hr2'; clear hr2' ht hsl
      go_wp2_with fail
      go_ret
      exact ⟨_, rfl, by rw [cf_fbits, cf_fbits, cf_fbits, Hr.out, Hr2.out, tot_cf ys (xs.map sq) (by rw [Hy.out, List.map_map]; exact List.map_congr_left fun x _ => by simp only [Function.comp_apply, sq, cf_fop])]; rfl, fbits_lt _ _ _ _, below_drewN hb _⟩

set_option maxRecDepth 20000 in
set_option maxHeartbeats 400000 in
theorem refeven_any (A : Option Addr) (c : Nat) (xs : List Nat) (hn : xs.length ≤ 1000) (w : World) (B : Nat) (ha : Sl w B 1 A xs.length (F xs)) :
    Calls Try.prog 27 #[.slice A xs.length c] w fun e w' => RetF w (evenS xs) e w' := by
  go_enter Try.func27, Try.ntmps27
  go_wp2
  go_loopw [3, 4, 5] (fun v s i wr => ∃ k r q n : Nat, k ≤ xs.length ∧ i = .int .i64 k ∧ v = .float .f64 r ∧ cf r = tot (xs.take k) ∧ r < 18446744073709551616 ∧ s = .float .f64 q ∧ cf q = tot ((xs.map sq).take k) ∧ q < 18446744073709551616 ∧ wr = w.drewN n)
    (fun _ _ i _ => xs.length - (intOf i).toNat)
  case atStart => exact ⟨0, 0, 0, 0, Nat.zero_le _, rfl, rfl, by rw [List.take_zero]; exact cf_zero, by omega, rfl, by rw [List.take_zero]; exact cf_zero, by omega, rfl⟩
  case round =>
    obtain ⟨k, r, q, n, hk, rfl, rfl, hr, hr2, rfl, hq, hq2, rfl⟩ := hrel
    by_cases hlt : k < xs.length
    · obtain ⟨a, u, rfl, hab, hu, hc⟩ := ha.cell1 hlt
      unfold F at hu
      simp only [List.getElem?_map] at hu
      obtain ⟨x, hxk, rfl⟩ := Option.map_eq_some_iff.1 hu
      have Hxk := Lib.hid hxk; have Hr := Lib.hid hr; have Hq := Lib.hid hq
      have Hsk : Hid ((xs.map sq)[k]? = some (sq x)) := Lib.hid (by rw [List.getElem?_map, hxk]; rfl)
      have i0 : (0 : Int) ≤ (k : Int) := by omega
      have i1 : (k : Int) < (xs.length : Int) := by omega
      clear hu ha hxk hr hq
      go_wp2
      go_region
      all_goals go_wp2
      all_goals
        go_roundw
        case rel => exact ⟨k + 1, _, _, _, by omega, by go_num, rfl, by rw [cf_fbits, Hr.out, tot_succ Hxk.out], fbits_lt _ _ _ _, rfl, by rw [cf_fbits, cf_fbits, Hq.out, tot_succ Hsk.out]; unfold sq; rw [cf_fop], fbits_lt _ _ _ _, rfl⟩
        case measure => simp [intOf]; omega
    · have hkl : k = xs.length := by omega
      subst hkl
      rw [List.take_length] at hr
      have hsl : (xs.map sq).length = xs.length := List.length_map ..
      rw [← hsl, List.take_length] at hq
      have Hr := Lib.hid hr; have Hq := Lib.hid hq; clear hr hq hsl
      go_wp2
      go_ret
      exact ⟨_, _, rfl, by rw [cf_fbits, cf_fbits, cf_fbits, Hr.out, Hq.out]; rfl, fbits_lt _ _ _ _, rfl⟩

end Go.Proofs.Ytdoemgccmjddcaa.St
