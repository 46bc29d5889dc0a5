/- Stats: the loops. -/
import Derived.Test.YtdoemgccmjddcaaSt1
namespace Go.Proofs.Ytdoemgccmjddcaa.St
open Go.RowKit Fl Wd
attribute [local go_sem] run_store_float

def F (xs : List Nat) : List Value := xs.map (Value.float .f64)
theorem info45 : (Try.prog.info? 45).map (fun i => (i.zero, i.size, i.bytes)) = some (some (.float .f64 0), 1, 8) := by kernel_rfl

/-- the law's own 'floats': bits as floats, in new memory -/
def OwnF (B : Nat) (xs : List Nat) (e : Ending) (w w' : World) : Prop := ∃ A c, e = .returned (.slice A xs.length c) ∧ Sl w' w'.heap.size 1 A xs.length (F xs) ∧ Below B w w'
set_option maxRecDepth 20000 in
set_option maxHeartbeats 400000 in
theorem lawfloats_any (A : Option Addr) (c : Nat) (xs : List Nat) (hx : ∀ x ∈ xs, x < 18446744073709551616) (hn : xs.length ≤ 50) (w : World) (ha : Sl w w.heap.size 1 A xs.length (xs.map fun x : Nat => Value.int .u64 (x : Int))) :
    Calls Try.prog 20 #[.slice A xs.length c] w fun e w' => OwnF w.heap.size xs e w w' := by
  obtain ⟨i0, hi, hz0, hz1, hz2⟩ := info_parts info45
  go_enter Try.func20, Try.ntmps20
  go_wp2
  go_loopw [3, 5, 8] (fun v _ i wr => ∃ k : Nat, k ≤ xs.length ∧ i = .int .i64 k ∧ wr.ownsRow w.heap.size 45 1 v k (F (xs.take k)) ∧ Below w.heap.size w wr)
    (fun _ _ i _ => xs.length - (intOf i).toNat)
  case atStart => exact ⟨0, Nat.zero_le _, rfl, by simpa [F] using World.ownsRow_nil _ _ _ _, Below.refl _ _⟩
  case round =>
    obtain ⟨k, hk, rfl, hown, hb⟩ := hrel
    by_cases hlt : k < xs.length
    · obtain ⟨a, u, rfl, hab, hu, hc⟩ := (ha.below hb).cell1 hlt
      simp only [List.getElem?_map] at hu
      obtain ⟨x, hxk, rfl⟩ := Option.map_eq_some_iff.1 hu
      have Hxk := Lib.hid hxk; have Hx := Lib.hid hx; have Hown := Lib.hid hown
      clear hu ha hxk hx hown
      go_wp2_with ((at_builtin; go_must (refine wpList_push (by rfl) _ _ _ (by rfl) w.heap.size 45 i0 (.float .f64 0) 1 8 Try.underlying42 hi hz0 hz1 hz2 rfl (by decide) (by decide) _ _ rfl (by simp [Value.oneCell']) _ _ _ Hown.out (by rfl) (by rfl) (by omega) hb.size ?_); intro A' cap w1 hown1 hb1))
      go_roundw
      case rel => exact ⟨k + 1, by omega, by go_num, by unfold F; rw [map_take_succ _ Hxk.out]; exact hown1, hb.trans hb1⟩
      case measure => simp [intOf]; omega
    · have hkl : k = xs.length := by omega
      subst hkl
      rw [List.take_length] at hown
      obtain ⟨A', c', rfl⟩ := own_slice (by decide) hown
      have Hown := Lib.hid hown; clear hown
      go_wp2
      go_ret
      exact ⟨A', c', rfl, Sl.of_own Hown.out, hb⟩

/-- a sum, NaNs taken together -/
def tot (xs : List Nat) : Nat := xs.foldl (fun s x => fop .add s (cf x)) 0
theorem tot_succ {xs : List Nat} {k x : Nat} (h : xs[k]? = some x) : tot (xs.take (k + 1)) = fop .add (tot (xs.take k)) (cf x) := by
  unfold tot; rw [List.take_add_one, h, List.foldl_append]; rfl
theorem cf_zero : cf 0 = 0 := by decide +kernel

set_option maxRecDepth 20000 in
set_option maxHeartbeats 400000 in
theorem total_any (A : Option Addr) (c : Nat) (xs : List Nat) (hn : xs.length ≤ 1000) (w : World) (B : Nat) (ha : Sl w B 1 A xs.length (F xs)) :
    Calls Try.prog 104 #[.slice A xs.length c] w fun e w' => RetF w (tot xs) e w' := by
  go_enter Try.func104, Try.ntmps104
  go_wp2
  go_loopw [3, 5, 8] (fun v _ i wr => ∃ k r n : Nat, k ≤ xs.length ∧ i = .int .i64 k ∧ v = .float .f64 r ∧ cf r = tot (xs.take k) ∧ r < 18446744073709551616 ∧ wr = w.drewN n)
    (fun _ _ i _ => xs.length - (intOf i).toNat)
  case atStart => exact ⟨0, 0, 0, Nat.zero_le _, rfl, rfl, by rw [List.take_zero]; exact cf_zero, by omega, rfl⟩
  case round =>
    obtain ⟨k, r, n, hk, rfl, rfl, hr, hr2, rfl⟩ := hrel
    by_cases hlt : k < xs.length
    · obtain ⟨a, u, rfl, hab, hu, hc⟩ := ha.cell1 hlt
      unfold F at hu
      simp only [List.getElem?_map] at hu
      obtain ⟨x, hxk, rfl⟩ := Option.map_eq_some_iff.1 hu
      have Hxk := Lib.hid hxk; have Hr := Lib.hid hr
      clear hu ha hxk hr
      go_wp2
      go_roundw
      case rel => exact ⟨k + 1, _, _, by omega, by go_num, rfl, by rw [cf_fbits, Hr.out, tot_succ Hxk.out], fbits_lt _ _ _ _, rfl⟩
      case measure => simp [intOf]; omega
    · have hkl : k = xs.length := by omega
      subst hkl
      rw [List.take_length] at hr
      have Hr := Lib.hid hr; clear hr
      go_wp2
      go_ret
      exact ⟨r, n, rfl, Hr.out, hr2, rfl⟩

def I (xs : List Int) : List Value := xs.map (Value.int .i64)
def fl (xs : List Int) : List Nat := xs.map (floatOfInt .f64)
theorem fi_lt (n : Int) : floatOfInt .f64 n < 18446744073709551616 := by have := floatOfInt_wf .f64 n; simpa [Lit.wf] using this

set_option maxRecDepth 20000 in
set_option maxHeartbeats 400000 in
theorem floats_any (A : Option Addr) (c : Nat) (xs : List Int) (hn : xs.length ≤ 1000) (w : World) (ha : Sl w w.heap.size 1 A xs.length (I xs)) :
    Calls Try.prog 105 #[.slice A xs.length c] w fun e w' => ∃ g, e = .returned (.slice (some ⟨g, 0, none⟩) xs.length xs.length) ∧ Row w' g 45 (F (fl xs)) ∧ Below w.heap.size w w' := by
  obtain ⟨i0, hi, hz0, hz1, hz2⟩ := info_parts info45
  have hmk := fun wx => run_make1 (P := Try.prog) 42 45 i0 (.float .f64 0) Try.underlying42 hi hz0 hz1 rfl .i64 .i64 xs.length (by omega) (by omega) wx
  clear hi hz0 hz1 hz2
  go_enter Try.func105, Try.ntmps105
  go_wp2
  go_loopw [4, 10] (fun _ i wr => ∃ k : Nat, k ≤ xs.length ∧ i = .int .i64 k ∧ Row wr w.heap.size 45 ((xs.take k).map (fun n => Value.float .f64 (floatOfInt .f64 n)) ++ List.replicate (xs.length - k) (.float .f64 0)) ∧ Below w.heap.size w wr)
    (fun _ i _ => xs.length - (intOf i).toNat)
  case atStart => exact ⟨0, Nat.zero_le _, rfl, by simpa using row_new_rep w _ _ _, (Below.refl _ w).alloc (Nat.le_refl _) _⟩
  case round =>
    obtain ⟨k, hk, rfl, hrow, hb⟩ := hrel
    by_cases hlt : k < xs.length
    · obtain ⟨a, u, rfl, hab, hu, hc⟩ := (ha.below hb).cell1 hlt
      unfold I at hu
      simp only [List.getElem?_map] at hu
      obtain ⟨x, hxk, rfl⟩ := Option.map_eq_some_iff.1 hu
      have hcell := hrow.cell k
      have hfz := hrow.frozen k
      have hlen : ((xs.take k).map (fun n => Value.float .f64 (floatOfInt .f64 n)) ++ List.replicate (xs.length - k) (Value.float .f64 0))[k]? = some (.float .f64 0) := by
        rw [List.getElem?_append_right (by rw [List.length_map, List.length_take]; omega)]
        rw [List.getElem?_replicate, if_pos (by rw [List.length_map, List.length_take]; omega)]
      rw [hlen] at hcell
      have Hxk := Lib.hid hxk; have Hrow := Lib.hid hrow
      clear hu ha hxk hrow hlen hmk
      go_wp2
      go_roundw
      case rel =>
        refine ⟨k + 1, by omega, by go_num, ?_, hb.setCell (p := ⟨w.heap.size, k, none⟩) (Nat.le_refl _) _⟩
        have := Hrow.out.set k (.float .f64 (floatOfInt .f64 x))
        rwa [set_fill (fun n => Value.float .f64 (floatOfInt .f64 n)) (.float .f64 0) Hxk.out hlt (Nat.le_refl _)] at this
      case measure => simp [intOf]; omega
    · have hkl : k = xs.length := by omega
      subst hkl
      rw [List.take_length, Nat.sub_self, List.replicate_zero, List.append_nil] at hrow
      have Hrow := Lib.hid hrow; clear hrow
      go_wp2
      go_ret
      exact ⟨w.heap.size, rfl, by unfold F fl; rw [List.map_map]; exact Hrow.out, hb⟩

def meanS (xs : List Int) : Nat := fop .quo (tot (fl xs)) (cf (floatOfInt .f64 xs.length))
/-- what a float call comes to that may make memory -/
def RetB (w : World) (c : Nat) (e : Ending) (w' : World) : Prop := ∃ r, e = .returned (.float .f64 r) ∧ cf r = c ∧ r < 18446744073709551616 ∧ Below w.heap.size w w'

set_option maxRecDepth 20000 in
set_option maxHeartbeats 400000 in
theorem mean_any (A : Option Addr) (c : Nat) (xs : List Int) (hn : xs.length ≤ 1000) (w : World) (ha : Sl w w.heap.size 1 A xs.length (I xs)) :
    Calls Try.prog 24 #[.slice A xs.length c] w fun e w' => RetB w (meanS xs) e w' := by
  have hfl : (fl xs).length = xs.length := by unfold fl; rw [List.length_map]
  have hc := floats_any A c xs hn w ha
  have Hc := Lib.hid hc; have Hfl := Lib.hid hfl; clear hc hfl ha
  go_enter Try.func24, Try.ntmps24
  go_wp2_with fail
  refine Hc.out.mono ?_; rintro e w1 ⟨g, rfl, hrow, hb⟩
  have Hrow := Lib.hid hrow; clear hrow
  go_wp2_with fail
  have hsl := (Row.sl (n := (fl xs).length) Hrow.out (by unfold F; rw [List.length_map]))
  have ht := total_any (some ⟨g, 0, none⟩) xs.length (fl xs) (by rw [Hfl.out]; exact hn) w1 _ hsl
  rw [Hfl.out] at ht
  refine ht.mono ?_; rintro e w' ⟨r, n, rfl, hr, hr2, rfl⟩
  have Hr := Lib.hid hr; clear hr ht hsl
  go_wp2_with fail
  go_ret
  exact ⟨_, rfl, by rw [cf_fbits, Hr.out]; rfl, fbits_lt _ _ _ _, below_drewN hb _⟩

set_option maxRecDepth 20000 in
set_option maxHeartbeats 400000 in
theorem refmean_any (A : Option Addr) (c : Nat) (xs : List Int) (hn : xs.length ≤ 1000) (w : World) (B : Nat) (ha : Sl w B 1 A xs.length (I xs)) :
    Calls Try.prog 25 #[.slice A xs.length c] w fun e w' => RetF w (meanS xs) e w' := by
  go_enter Try.func25, Try.ntmps25
  go_wp2
  go_loopw [3, 4] (fun v i wr => ∃ k r n : Nat, k ≤ xs.length ∧ i = .int .i64 k ∧ v = .float .f64 r ∧ cf r = tot ((fl xs).take k) ∧ r < 18446744073709551616 ∧ wr = w.drewN n)
    (fun _ i _ => xs.length - (intOf i).toNat)
  case atStart => exact ⟨0, 0, 0, Nat.zero_le _, rfl, rfl, by rw [List.take_zero]; exact cf_zero, by omega, rfl⟩
  case round =>
    obtain ⟨k, r, n, hk, rfl, rfl, hr, hr2, rfl⟩ := hrel
    by_cases hlt : k < xs.length
    · obtain ⟨a, u, rfl, hab, hu, hc⟩ := ha.cell1 hlt
      unfold I at hu
      simp only [List.getElem?_map] at hu
      obtain ⟨x, hxk, rfl⟩ := Option.map_eq_some_iff.1 hu
      have Hxk : Hid ((fl xs)[k]? = some (floatOfInt .f64 x)) := Lib.hid (by unfold fl; rw [List.getElem?_map, hxk]; rfl)
      have Hr := Lib.hid hr
      clear hu ha hxk hr
      go_wp2
      go_roundw
      case rel => exact ⟨k + 1, _, _, by omega, by go_num, rfl, by rw [cf_fbits, Hr.out, tot_succ Hxk.out], fbits_lt _ _ _ _, rfl⟩
      case measure => simp [intOf]; omega
    · have hkl : k = xs.length := by omega
      subst hkl
      have hfl : (fl xs).length = xs.length := by unfold fl; rw [List.length_map]
      rw [← hfl, List.take_length] at hr
      have Hr := Lib.hid hr; clear hr hfl
      go_wp2
      go_ret
      exact ⟨_, _, rfl, by rw [cf_fbits, Hr.out]; rfl, fbits_lt _ _ _ _, rfl⟩

end Go.Proofs.Ytdoemgccmjddcaa.St
