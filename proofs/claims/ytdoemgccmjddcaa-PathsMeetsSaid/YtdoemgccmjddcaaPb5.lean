/- The reference's Apart. -/
import Derived.Test.YtdoemgccmjddcaaPb4
namespace Go.Proofs.Ytdoemgccmjddcaa.Pa
open Go.RowKit Go.Maps Go.Proofs.Ytdoemgccmjddcaa.Wd Go.Proofs.Ytdoemgccmjddcaa.Li Go.Proofs.Ytdoemgccmjddcaa.Mp Go.Proofs.Ytdoemgccmjddcaa.Tp Go.Proofs.Ytdoemgccmjddcaa.Tr Go.Proofs.Ytdoemgccmjddcaa.Cl Go.Proofs.Ytdoemgccmjddcaa.So Go.Proofs.Ytdoemgccmjddcaa.Sw
attribute [local go_sem] run_store_float

theorem apart_snoc {l : List Cls} {a b : Int} {k : Nat} {x : Ci l} (h : (way l a)[k]? = some x) (hn : ((way l a).take k).any (apartB l b) = false) (hx : apartB l b x = false) : ((way l a).take (k + 1)).any (apartB l b) = false := by
  rw [List.take_add_one, h, List.any_append, hn]; simp [hx]
theorem apartB_is {l : List Cls} {b : Int} (x : Ci l) : apartB l b x = (x.1.isolated && !decide (x.1.id ∈ wids l b)) := rfl
theorem apart_yes {l : List Cls} {a b : Int} {k : Nat} {x : Ci l} (h : (way l a)[k]? = some x) (hx : apartB l b x = true) : apartS l a b = true := by
  unfold apartS
  exact List.any_eq_true.2 ⟨x, List.mem_of_getElem? h, hx⟩
set_option maxRecDepth 20000 in
set_option maxHeartbeats 1000000 in
theorem refapart_c (A : Option Addr) (cap : Nat) (l : List Cls) (F0 : Fit l) (a b : Int) (w : World) (hI : Holds w.heap.size w (.slice A l.length cap) l) :
    Calls Try.prog 97 #[.slice A l.length cap, .int .i64 a, .int .i64 b] w (RetB (.bool (apartS l a b)) w) := by
  have HPA := Lib.hid (refpath_c A cap l F0 65 a (wids_len l a) w hI)
  have HPB := Lib.hid (fun (w1 : World) (h : Below w.heap.size w w1) => refpath_c A cap l F0 65 b (wids_len l b) w1 (holds_next hI h))
  have HLA := Lib.hid (wids_len l a)
  have HI := Lib.hid hI
  have HF := Lib.hid F0
  clear hI F0
  unfold PathOk ListOk RetB at *
  go_enter Try.func97, Try.ntmps97
  go_upto_region 3 with (first
    | (go_at_call 92; (with_reducible refine (HPA.out).mono ?_); rintro e w1 ⟨⟨A1, c1, rfl, hs1, hb1⟩, hpx⟩; have HB := Lib.hid (HPB.out w1 hb1); have HS1 := Lib.hid hs1; have HB1 := Lib.hid hb1; clear hs1 hb1 hpx HPA)
    | (go_at_call 92; (with_reducible refine (HB.out).mono ?_); rintro e w2 ⟨⟨A2, c2, rfl, hs2, hb2⟩, hpx⟩; have HS2 := Lib.hid hs2; have HB2 := Lib.hid hb2; clear hs2 hb2 hpx HB))
  go_loopg [9] ((wids l a).length) (fun kx s9 wr => ∃ (k : Nat), s9 = .int .i64 k ∧ k ≤ (wids l a).length ∧ (wids l a).length - k ≤ kx ∧ wr = w2 ∧ Hid (((way l a).take k).any (apartB l b) = false))
  case atStart => exact ⟨0, rfl, by omega, by omega, rfl, Lib.hid rfl⟩
  case round =>
    obtain ⟨k, rfl, hk, hkx, rfl, HN⟩ := hrel
    have hla := HLA.out
    by_cases hlt : k < (wids l a).length
    · have hltz : (k : Int) < ((wids l a).length : Int) := by omega
      have hkw : k < (way l a).length := by rw [show (wids l a).length = (way l a).length from List.length_map _] at hlt; exact hlt
      obtain ⟨x, hx⟩ : ∃ x, (way l a)[k]? = some x := ⟨_, List.getElem?_eq_getElem hkw⟩
      have hwx : (wids l a)[k]? = some x.1.id := by unfold wids; rw [List.getElem?_map, hx]; rfl
      obtain ⟨a1, u, rfl, hab, hu, hc⟩ := (HS1.out.below HB2.out).cell1 (k := k) hlt
      unfold St.I at hu
      rw [List.getElem?_map, hwx] at hu
      obtain rfl : Value.int .i64 x.1.id = u := by injection hu
      rcases find_at (zs := l) (id := x.1.id) with ⟨_, ha⟩ | ⟨i, c, hf, hic, ha⟩
      · rw [x.2] at ha; cases ha
      · obtain rfl : x.1 = c := by rw [x.2] at ha; injection ha
        have hil := (List.getElem?_eq_some_iff.1 hic).1
        have hF5 := HF.out.le
        obtain ⟨_, hcs⟩ := holds_parts HI.out
        obtain ⟨b0, off, rfl, hb, hcc⟩ := hcs (by omega)
        have hBw := HB1.out.trans (HB2.out.mono HB1.out.size)
        have d10 := (hBw.cell (p := ⟨b0, off + i * 11 + 10, none⟩) hb).trans (hcc i x.1 hic 10 _ rfl)
        have hfind := reffind_c (some ⟨b0, off, none⟩) l.length cap wr.heap.size l x.1.id (by omega) wr (holds_next HI.out hBw)
        rw [hf] at hfind
        have HFI := Lib.hid hfind
        have hilz : (i : Int) < (l.length : Int) := by omega
        have hh := has_c A2 c2 wr.heap.size (wids l b) x.1.id (by have := wids_len l b; omega) wr HS2.out
        have hat := apartB_is x (l := l) (b := b)
        obtain ⟨q, hq⟩ : ∃ q, q = x.1.isolated := ⟨_, rfl⟩
        obtain ⟨r, hr⟩ : ∃ r, r = decide (x.1.id ∈ wids l b) := ⟨_, rfl⟩
        rw [← hq] at d10
        rw [← hr] at hh
        rw [← hq, ← hr] at hat
        have HH := Lib.hid hh
        have HAT := Lib.hid hat
        have HX := Lib.hid hx
        clear hfind hf hic ha hcs hcc hh hat hq hr hx hwx hu hkw hil
        have HNX : Hid (apartB l b x = false → ((way l a).take (k + 1)).any (apartB l b) = false) := Lib.hid (fun h => apart_snoc HX.out HN.out h)
        have HTX : Hid (apartB l b x = true → apartS l a b = true) := Lib.hid (fun h => apart_yes HX.out h)
        cases q with
        | false =>
          go_wp2_with (go_at_call 51; (with_reducible refine (HFI.out).mono ?_); rintro e w9 ⟨rfl, hw9⟩; subst w9)
          go_roundg ((wids l a).length - (k + 1))
          case measure => omega
          case rel => exact ⟨k + 1, by go_num, by omega, by omega, rfl, Lib.hid (HNX.out HAT.out)⟩
        | true =>
          cases r with
          | false =>
            go_wp2_with (first
              | (go_at_call 51; (with_reducible refine (HFI.out).mono ?_); rintro e w9 ⟨rfl, hw9⟩; subst w9)
              | (go_at_call 93; (with_reducible refine (HH.out).mono ?_); rintro e w9 ⟨rfl, hw9⟩; subst w9))
            go_ret
            exact ⟨by rw [HTX.out HAT.out]; rfl, HB1.out.trans (HB2.out.mono HB1.out.size)⟩
          | true =>
            go_wp2_with (first
              | (go_at_call 51; (with_reducible refine (HFI.out).mono ?_); rintro e w9 ⟨rfl, hw9⟩; subst w9)
              | (go_at_call 93; (with_reducible refine (HH.out).mono ?_); rintro e w9 ⟨rfl, hw9⟩; subst w9))
            go_roundg ((wids l a).length - (k + 1))
            case measure => omega
            case rel => exact ⟨k + 1, by go_num, by omega, by omega, rfl, Lib.hid (HNX.out HAT.out)⟩
    · have hltz : ¬ (k : Int) < ((wids l a).length : Int) := by omega
      obtain rfl : k = (wids l a).length := by omega
      have HT : Hid (apartS l a b = false) := Lib.hid (by have := HN.out; rw [show (wids l a).length = (way l a).length from List.length_map _, List.take_length] at this; exact this)
      go_wp2
      go_ret
      exact ⟨by rw [HT.out]; rfl, HB1.out.trans (HB2.out.mono HB1.out.size)⟩
end Go.Proofs.Ytdoemgccmjddcaa.Pa
