/- Stats: Off, the program's and the document's. -/
import Derived.Test.YtdoemgccmjddcaaSt3
namespace Go.Proofs.Ytdoemgccmjddcaa.St
open Go.RowKit Fl Wd
attribute [local go_sem] run_store_float

/-- how far off, of differences -/
def dif (p : Nat × Nat) : Nat := fop .sub (cf p.1) (cf p.2)
def mo (m d : Nat) : Nat := if nan d then m else Nat.max m (absB d)
def offD (ds : List Nat) : Nat := if ds.any nan then nanC else ds.foldl mo 0
def offS (xs ys : List Nat) : Nat := offD ((xs.zip ys).map dif)

theorem run_max_pos {P : Program} (ts : Array TypeId) (ty : TypeId) (x y : Nat) (hx : x ≤ 9218868437227405312) (hy : y ≤ 9218868437227405312) (w : World) :
    (Builtin.max_ ts ty #[.float .f64 x, .float .f64 y]).run P w = .ok (.float .f64 (Nat.max x y)) w := by
  have hnx : nan x = false := (nan_false_iff x).2 (by omega)
  have hny : nan y = false := (nan_false_iff y).2 (by omega)
  have ho := order_key hnx hny
  have e1 : key x = (x : Int) := by unfold key; rw [if_neg (by omega)]; omega
  have e2 : key y = (y : Int) := by unfold key; rw [if_neg (by omega)]; omega
  rw [e1, e2] at ho
  have ho' : FloatKind.f64.format.order x y = _ := ho
  by_cases h1 : x < y
  · rw [compare_lt (by omega)] at ho'
    have : Nat.max x y = y := Nat.max_eq_right (by omega)
    simp [Builtin.max_, Builtin.max2, ho', this]
  · by_cases h2 : y < x
    · rw [compare_gt (by omega)] at ho'
      have : Nat.max x y = x := Nat.max_eq_left (by omega)
      simp [Builtin.max_, Builtin.max2, ho', this]
    · have : x = y := by omega
      subst this
      have e3 : compare (x : Int) (x : Int) = .eq := by simp [compare, compareOfLessAndEq]
      rw [e3] at ho'
      have : Nat.max x x = x := Nat.max_self x
      simp [Builtin.max_, Builtin.max2, ho', this]
theorem nan_absB (x : Nat) : nan (absB x) = nan x := by
  unfold absB
  have h1 := nan_iff x
  have h2 := nan_iff (x % 9223372036854775808)
  rw [Nat.mod_mod] at h2
  rw [Bool.eq_iff_iff, h1, h2]
theorem absB_le {x : Nat} (h : nan x = false) : absB x ≤ 9218868437227405312 := (nan_false_iff x).1 h
theorem absB_cf {x : Nat} (h : nan x = false) : absB (cf x) = absB x := by rw [cf_num h]
theorem mo_le (m d : Nat) (h : m ≤ 9218868437227405312) : mo m d ≤ 9218868437227405312 := by
  unfold mo; split
  · exact h
  · rename_i hn
    have := absB_le (x := d) (by simpa using hn)
    exact Nat.max_le.2 ⟨h, this⟩

theorem isnan_is (x : Nat) (b : Bool) (h : nan x = b) (w : World) : Calls Try.prog 107 #[.float .f64 x] w fun e w' => e = .returned (.bool b) ∧ w = w' := h ▸ isnan_any x w
theorem nan_fbits (op : BinOp) (x y : Nat) (w : World) : nan (fbits op x y w) = nan (fop op (cf x) (cf y)) := by rw [← nan_cf, cf_fbits]
theorem fbits_num {op : BinOp} {x y : Nat} (h : nan (fop op (cf x) (cf y)) = false) (w : World) : fbits op x y w = fop op (cf x) (cf y) := by
  rw [← nan_fbits op x y w] at h
  rw [← cf_num h, cf_fbits]
theorem absB_lt (x : Nat) : absB x < 18446744073709551616 := by unfold absB; omega

theorem zip_at {xs ys : List Nat} {k x y : Nat} (hx : xs[k]? = some x) (hy : ys[k]? = some y) : ((xs.zip ys).map dif)[k]? = some (fop .sub (cf x) (cf y)) := by
  rw [List.getElem?_map, (List.getElem?_zip_eq_some (z := (x, y))).2 ⟨hx, hy⟩]; rfl
theorem fold_succ {ds : List Nat} {k d : Nat} (h : ds[k]? = some d) : (ds.take (k + 1)).foldl mo 0 = mo ((ds.take k).foldl mo 0) d := by
  rw [List.take_add_one, h, List.foldl_append]; rfl
theorem any_succ {ds : List Nat} {k d : Nat} (h : ds[k]? = some d) : (ds.take (k + 1)).any nan = ((ds.take k).any nan || nan d) := by
  rw [List.take_add_one, h, List.any_append]; simp
theorem any_of_at {ds : List Nat} {k d : Nat} (h : ds[k]? = some d) (hn : nan d = true) : ds.any nan = true :=
  List.any_eq_true.2 ⟨d, List.mem_of_getElem? h, hn⟩

set_option maxRecDepth 20000 in
set_option maxHeartbeats 400000 in
theorem off_any (A B : Option Addr) (c d : Nat) (xs ys : List Nat) (hn : xs.length ≤ 1000) (hm : ys.length ≤ 1000) (w : World) (K : Nat) (ha : Sl w K 1 A xs.length (F xs)) (hb : Sl w K 1 B ys.length (F ys)) :
    Calls Try.prog 28 #[.slice A xs.length c, .slice B ys.length d] w fun e w' => RetF w (offS xs ys) e w' := by
  go_enter Try.func28, Try.ntmps28
  go_wp2
  · go_loopw [4, 5, 7, 13] (fun v m _ i wr => ∃ k r n : Nat, k ≤ ys.length ∧ i = .int .i64 k ∧ v = .float .f64 0 ∧ m = .float .f64 r ∧ r = (((xs.zip ys).map dif).take k).foldl mo 0 ∧ (((xs.zip ys).map dif).take k).any nan = false ∧ r ≤ 9218868437227405312 ∧ wr = w.drewN n)
      (fun _ _ _ i _ => ys.length - (intOf i).toNat)
    case atStart => exact ⟨0, 0, 0, Nat.zero_le _, rfl, rfl, rfl, rfl, rfl, by omega, rfl⟩
    case round =>
      obtain ⟨k, r, n, hk, rfl, rfl, rfl, hr, hany, hr2, rfl⟩ := hrel
      by_cases hlt : k < ys.length
      · obtain ⟨a, u, rfl, hab, hu, hc⟩ := ha.cell1 (k := k) (by omega)
        obtain ⟨b, v, rfl, hbb, hv, hc2⟩ := hb.cell1 (k := k) (by omega)
        unfold F at hu hv
        simp only [List.getElem?_map] at hu hv
        obtain ⟨x, hxk, rfl⟩ := Option.map_eq_some_iff.1 hu
        obtain ⟨y, hyk, rfl⟩ := Option.map_eq_some_iff.1 hv
        have Hd := Lib.hid (zip_at hxk hyk)
        have Hr := Lib.hid hr; have Hany := Lib.hid hany
        have i0 : (0 : Int) ≤ (k : Int) := by omega
        have i1 : (k : Int) < (xs.length : Int) := by omega
        have i2 : (k : Int) < (ys.length : Int) := by omega
        clear hu hv ha hb hxk hyk hr hany
        cases hnd : nan (fop .sub (cf x) (cf y)) with
        | true =>
          have Hnd := Lib.hid hnd; clear hnd
          go_wp2_with fail
          go_region_with (first | (go_at_call 106; refine (abs_any _ (fbits_lt _ _ _ _) _).mono ?_; rintro e w' ⟨rfl, rfl⟩))
          all_goals
            go_wp2_with fail
            refine (isnan_is _ true (by rw [nan_absB, nan_fbits, Hnd.out]) _).mono ?_
            rintro e w' ⟨rfl, rfl⟩
            go_wp2_with fail
            go_ret
            refine ⟨_, _, rfl, ?_, absB_lt _, rfl⟩
            rw [cf_nan (by rw [nan_absB, nan_fbits, Hnd.out])]
            unfold offS offD
            rw [if_pos (any_of_at Hd.out Hnd.out)]
        | false =>
          have hfb := fbits_num (op := .sub) (x := x) (y := y) hnd
          have hmo : Hid (mo r (fop .sub (cf x) (cf y)) = Nat.max r (absB (fop .sub (cf x) (cf y)))) := Lib.hid (by unfold mo; rw [if_neg (by rw [hnd]; decide)])
          have hda := absB_le hnd
          have hDl : fop .sub (cf x) (cf y) < 18446744073709551616 := by rw [← hfb w]; exact fbits_lt _ _ _ _
          have Hnd := Lib.hid hnd; clear hnd
          generalize fop .sub (cf x) (cf y) = D at *
          have hmx := fun wx => run_max_pos (P := Try.prog) #[45, 45] 45 r (absB D) hr2 hda wx
          have hle : Nat.max r (absB D) ≤ 9218868437227405312 := Nat.max_le.2 ⟨hr2, hda⟩
          generalize hM : Nat.max r (absB D) = M at *
          have HM := Lib.hid hM; clear hM
          go_wp2_with fail
          go_region_with (first | (go_at_call 106; refine (abs_any _ hDl _).mono ?_; rintro e w' ⟨rfl, rfl⟩))
          all_goals
            go_wp2_with fail
            refine (isnan_is _ false (by rw [nan_absB, Hnd.out]) _).mono ?_
            rintro e w' ⟨rfl, rfl⟩
            go_wp2_with fail
            go_roundw
            case rel => exact ⟨k + 1, _, _, by omega, by go_num, rfl, rfl, by rw [fold_succ Hd.out, ← Hr.out, hmo.out], by rw [any_succ Hd.out, Hany.out, Hnd.out]; rfl, hle, rfl⟩
            case measure => simp [intOf]; omega
      · have hkl : k = ys.length := by omega
        subst hkl
        have hz : ((xs.zip ys).map dif).length = ys.length := by rw [List.length_map, List.length_zip]; omega
        rw [← hz, List.take_length] at hr hany
        have Hr := Lib.hid hr; have Hany := Lib.hid hany; clear hr hany hz
        go_wp2_with fail
        go_ret
        refine ⟨_, _, rfl, ?_, by omega, rfl⟩
        unfold offS offD
        rw [if_neg (by rw [Hany.out]; decide), ← Hr.out, cf_num ((nan_false_iff r).2 (by omega))]
  · go_loopw [4, 5, 7, 13] (fun v m _ i wr => ∃ k r n : Nat, k ≤ xs.length ∧ i = .int .i64 k ∧ v = .float .f64 0 ∧ m = .float .f64 r ∧ r = (((xs.zip ys).map dif).take k).foldl mo 0 ∧ (((xs.zip ys).map dif).take k).any nan = false ∧ r ≤ 9218868437227405312 ∧ wr = w.drewN n)
      (fun _ _ _ i _ => xs.length - (intOf i).toNat)
    case atStart => exact ⟨0, 0, 0, Nat.zero_le _, rfl, rfl, rfl, rfl, rfl, by omega, rfl⟩
    case round =>
      obtain ⟨k, r, n, hk, rfl, rfl, rfl, hr, hany, hr2, rfl⟩ := hrel
      by_cases hlt : k < xs.length
      · obtain ⟨a, u, rfl, hab, hu, hc⟩ := ha.cell1 (k := k) (by omega)
        obtain ⟨b, v, rfl, hbb, hv, hc2⟩ := hb.cell1 (k := k) (by omega)
        unfold F at hu hv
        simp only [List.getElem?_map] at hu hv
        obtain ⟨x, hxk, rfl⟩ := Option.map_eq_some_iff.1 hu
        obtain ⟨y, hyk, rfl⟩ := Option.map_eq_some_iff.1 hv
        have Hd := Lib.hid (zip_at hxk hyk)
        have Hr := Lib.hid hr; have Hany := Lib.hid hany
        have i0 : (0 : Int) ≤ (k : Int) := by omega
        have i1 : (k : Int) < (xs.length : Int) := by omega
        have i2 : (k : Int) < (ys.length : Int) := by omega
        clear hu hv ha hb hxk hyk hr hany
        cases hnd : nan (fop .sub (cf x) (cf y)) with
        | true =>
          have Hnd := Lib.hid hnd; clear hnd
          go_wp2_with fail
          go_region_with (first | (go_at_call 106; refine (abs_any _ (fbits_lt _ _ _ _) _).mono ?_; rintro e w' ⟨rfl, rfl⟩))
          all_goals
            go_wp2_with fail
            refine (isnan_is _ true (by rw [nan_absB, nan_fbits, Hnd.out]) _).mono ?_
            rintro e w' ⟨rfl, rfl⟩
            go_wp2_with fail
            go_ret
            refine ⟨_, _, rfl, ?_, absB_lt _, rfl⟩
            rw [cf_nan (by rw [nan_absB, nan_fbits, Hnd.out])]
            unfold offS offD
            rw [if_pos (any_of_at Hd.out Hnd.out)]
        | false =>
          have hfb := fbits_num (op := .sub) (x := x) (y := y) hnd
          have hmo : Hid (mo r (fop .sub (cf x) (cf y)) = Nat.max r (absB (fop .sub (cf x) (cf y)))) := Lib.hid (by unfold mo; rw [if_neg (by rw [hnd]; decide)])
          have hda := absB_le hnd
          have hDl : fop .sub (cf x) (cf y) < 18446744073709551616 := by rw [← hfb w]; exact fbits_lt _ _ _ _
          have Hnd := Lib.hid hnd; clear hnd
          generalize fop .sub (cf x) (cf y) = D at *
          have hmx := fun wx => run_max_pos (P := Try.prog) #[45, 45] 45 r (absB D) hr2 hda wx
          have hle : Nat.max r (absB D) ≤ 9218868437227405312 := Nat.max_le.2 ⟨hr2, hda⟩
          generalize hM : Nat.max r (absB D) = M at *
          have HM := Lib.hid hM; clear hM
          go_wp2_with fail
          go_region_with (first | (go_at_call 106; refine (abs_any _ hDl _).mono ?_; rintro e w' ⟨rfl, rfl⟩))
          all_goals
            go_wp2_with fail
            refine (isnan_is _ false (by rw [nan_absB, Hnd.out]) _).mono ?_
            rintro e w' ⟨rfl, rfl⟩
            go_wp2_with fail
            go_roundw
            case rel => exact ⟨k + 1, _, _, by omega, by go_num, rfl, rfl, by rw [fold_succ Hd.out, ← Hr.out, hmo.out], by rw [any_succ Hd.out, Hany.out, Hnd.out]; rfl, hle, rfl⟩
            case measure => simp [intOf]; omega
      · have hkl : k = xs.length := by omega
        subst hkl
        have hz : ((xs.zip ys).map dif).length = xs.length := by rw [List.length_map, List.length_zip]; omega
        rw [← hz, List.take_length] at hr hany
        have Hr := Lib.hid hr; have Hany := Lib.hid hany; clear hr hany hz
        go_wp2_with fail
        go_ret
        refine ⟨_, _, rfl, ?_, by omega, rfl⟩
        unfold offS offD
        rw [if_neg (by rw [Hany.out]; decide), ← Hr.out, cf_num ((nan_false_iff r).2 (by omega))]

end Go.Proofs.Ytdoemgccmjddcaa.St
