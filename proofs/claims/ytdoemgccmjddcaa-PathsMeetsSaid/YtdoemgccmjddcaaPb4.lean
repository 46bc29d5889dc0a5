/- The reference's Meet. -/
import Derived.Test.YtdoemgccmjddcaaPb3
namespace Go.Proofs.Ytdoemgccmjddcaa.Pa
open Go.RowKit Go.Maps Go.Proofs.Ytdoemgccmjddcaa.Wd Go.Proofs.Ytdoemgccmjddcaa.Li Go.Proofs.Ytdoemgccmjddcaa.Mp Go.Proofs.Ytdoemgccmjddcaa.Tp Go.Proofs.Ytdoemgccmjddcaa.Tr Go.Proofs.Ytdoemgccmjddcaa.Cl Go.Proofs.Ytdoemgccmjddcaa.So Go.Proofs.Ytdoemgccmjddcaa.Sw
attribute [local go_sem] run_store_float

def firstIn (ps qs : List Int) : Int := (ps.find? (fun i => decide (i ∈ qs))).getD 0
theorem meet_first (l : List Cls) (a b : Int) : meetS l a b = firstIn (wids l a) (wids l b) := rfl
theorem first_in {ps qs : List Int} {k : Nat} {y : Int} (h : ps[k]? = some y) (hy : y ∈ qs) : firstIn (ps.drop k) qs = y := by
  obtain ⟨hk, e⟩ := List.getElem?_eq_some_iff.1 h
  unfold firstIn
  rw [List.drop_eq_getElem_cons hk, e, List.find?_cons]; simp [hy]
theorem first_out {ps qs : List Int} {k : Nat} {y : Int} (h : ps[k]? = some y) (hy : y ∉ qs) : firstIn (ps.drop k) qs = firstIn (ps.drop (k + 1)) qs := by
  obtain ⟨hk, e⟩ := List.getElem?_eq_some_iff.1 h
  unfold firstIn
  rw [List.drop_eq_getElem_cons hk, e, List.find?_cons]; simp [hy]

set_option maxRecDepth 20000 in
set_option maxHeartbeats 1000000 in
theorem refmeet_c (A : Option Addr) (cap : Nat) (l : List Cls) (F0 : Fit l) (a b : Int) (w : World) (hI : Holds w.heap.size w (.slice A l.length cap) l) :
    Calls Try.prog 94 #[.slice A l.length cap, .int .i64 a, .int .i64 b] w (RetB (.int .i64 (meetS l a b)) w) := by
  have hpa := refpath_c A cap l F0 65 a (wids_len l a) w hI
  have HPB := Lib.hid (fun (w1 : World) (h : Below w.heap.size w w1) => refpath_c A cap l F0 65 b (wids_len l b) w1 (holds_next hI h))
  have hla := wids_len l a
  have hlb := wids_len l b
  rw [meet_first]
  unfold PathOk ListOk at *
  generalize wids l a = ps at *
  generalize wids l b = qs at *
  have HPA := Lib.hid hpa
  clear hpa hI F0
  unfold RetB
  go_enter Try.func94, Try.ntmps94
  go_upto_region 4 with (first
    | (go_at_call 92; (with_reducible refine (HPA.out).mono ?_); rintro e w1 ⟨⟨A1, c1, rfl, hs1, hb1⟩, hpx⟩; have HB := Lib.hid (HPB.out w1 hb1); have HS1 := Lib.hid hs1; have HB1 := Lib.hid hb1; clear hs1 hb1 hpx HPA)
    | (go_at_call 92; (with_reducible refine (HB.out).mono ?_); rintro e w2 ⟨⟨A2, c2, rfl, hs2, hb2⟩, hpx⟩; have HS2 := Lib.hid hs2; have HB2 := Lib.hid hb2; clear hs2 hb2 hpx HB))
  go_loopg [9, 10] (ps.length + 1) (fun kx s9 s10 wr => ∃ (k : Nat), s10 = .int .i64 ((k : Int) - 1) ∧ k ≤ ps.length ∧ k + 1 ≤ kx ∧ s9 = .int .i64 (firstIn (ps.drop k) qs) ∧ wr = w2)
  case atStart => exact ⟨ps.length, by go_num, by omega, by omega, by simp [firstIn], rfl⟩
  case round =>
    obtain ⟨k, rfl, hk, hkx, rfl, rfl⟩ := hrel
    cases k with
    | zero =>
      have hlt : ¬ (0 : Int) ≤ ((0 : Nat) : Int) - 1 := by omega
      go_wp2
      go_ret
      exact ⟨rfl, HB1.out.trans (HB2.out.mono HB1.out.size)⟩
    | succ j =>
      have hj : ((j + 1 : Nat) : Int) - 1 = (j : Int) := by omega
      rw [hj]
      have hlt : (0 : Int) ≤ (j : Int) := by omega
      have hltz : (j : Int) < (ps.length : Int) := by omega
      have hjl : j < ps.length := by omega
      obtain ⟨a1, u, rfl, hab, hu, hc⟩ := (HS1.out.below HB2.out).cell1 (k := j) hjl
      unfold St.I at hu
      simp only [List.getElem?_map] at hu
      obtain ⟨y, hy0, rfl⟩ := Option.map_eq_some_iff.1 hu
      have HY := Lib.hid hy0
      clear hu hy0
      have hh := has_c A2 c2 wr.heap.size qs y (by omega) wr HS2.out
      by_cases hq : y ∈ qs
      · rw [decide_eq_true hq] at hh
        have HH := Lib.hid hh
        have HT := Lib.hid (first_in HY.out hq)
        clear hh hq
        go_wp2_with (go_at_call 93; (with_reducible refine (HH.out).mono ?_); rintro e w3 ⟨rfl, hw3⟩; subst w3)
        go_roundg (j + 1)
        case measure => omega
        case rel => exact ⟨j, by go_num, by omega, by omega, by rw [HT.out], rfl⟩
      · rw [decide_eq_false hq] at hh
        have HH := Lib.hid hh
        have HT := Lib.hid (first_out HY.out hq)
        clear hh hq
        go_wp2_with (go_at_call 93; (with_reducible refine (HH.out).mono ?_); rintro e w3 ⟨rfl, hw3⟩; subst w3)
        go_roundg (j + 1)
        case measure => omega
        case rel => exact ⟨j, by go_num, by omega, by omega, by rw [HT.out], rfl⟩
end Go.Proofs.Ytdoemgccmjddcaa.Pa
