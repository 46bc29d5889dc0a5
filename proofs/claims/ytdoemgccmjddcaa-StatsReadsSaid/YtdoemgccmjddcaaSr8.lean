/- The document's Bytes, Delays and Part. -/
import Derived.Test.YtdoemgccmjddcaaSr7
namespace Go.Proofs.Ytdoemgccmjddcaa.Sr
open Go.RowKit Go.Maps Go.Shelf Fl Wd Li St

def pick (all : Bool) (leaf : Int) (x : En) : Bool := all || x.leaf == leaf

set_option maxRecDepth 20000 in
set_option maxHeartbeats 2000000 in
theorem refbytes_c (A : Option Addr) (n c : Nat) (leaf : Int) (all : Bool) (l : List En) (hlen : l.length ≤ 1048576) (hl : ∀ (j : Nat) (x : En), l[j]? = some x → x.raw.size ≤ 2100) (N : Nat) (w : World) (hI : Ls N w (.slice A n c) l) :
    Calls Try.prog 37 #[.slice A n c, .int .i64 leaf, .bool all] w (CameOk (sumRaw (pick all leaf) (went l l.length)) w) := by
  obtain ⟨rfl, hcs⟩ := hI.parts
  have HCS := Lib.hid hcs
  have HI := Lib.hid hI
  have HL := Lib.hid hl
  clear hcs hI hl
  go_enter Try.func37, Try.ntmps37
  go_wp2_with fail
  go_loopg [7, 8] l.length (fun kx s7 s8 wr => ∃ k q : Nat, s7 = .int .i64 (sumRaw (pick all leaf) (went l k)) ∧ s8 = .int .i64 k ∧ k ≤ l.length ∧ l.length - k ≤ kx ∧ wr = w.drewN q)
  case atStart => exact ⟨0, 0, rfl, rfl, by omega, by omega, rfl⟩
  case round =>
    obtain ⟨k, q, rfl, rfl, hk, hkx, rfl⟩ := hrel
    by_cases hlt : k < l.length
    · have hltz : (k : Int) < (l.length : Int) := by omega
      obtain ⟨x, hx⟩ : ∃ x, l[k]? = some x := ⟨l[k], List.getElem?_eq_getElem hlt⟩
      obtain ⟨b, off, rfl, _, hc⟩ := HCS.out (by omega)
      have hcame := came_c _ _ _ k l hlen N (w.drewN q) (HI.out.below (below_drewN (Below.refl N w) q)) x hx
      have c5 : w.cell? ⟨b, off + k * 11 + 5, none⟩ = some (.int .i64 x.leaf) := hc k x hx 5 _ rfl
      have hsum := sumRaw_le (pick all leaf) (went l k) (went_short HL.out k)
      have hwl := went_len l k
      have hs62 : (sumRaw (pick all leaf) (went l k) : Int) ≤ 2202009600 := by omega
      have hs0 : (0 : Int) ≤ (sumRaw (pick all leaf) (went l k) : Int) := by omega
      have HX := Lib.hid hx
      have HC := Lib.hid hc
      clear hx hc hsum hwl
      cases hcm : came l k x with
      | none =>
        rw [hcm] at hcame
        have HCM := Lib.hid hcm
        have hst : Hid (sumRaw (pick all leaf) (went l k) = sumRaw (pick all leaf) (went l (k + 1))) := Lib.hid (by rw [went_none HX.out hcm])
        have HCAME := Lib.hid hcame
        clear hcm hcame
        generalize sumRaw (pick all leaf) (went l k) = S at *
        go_wp2_with (go_at_call 112; refine (HCAME.out).mono ?_; rintro e w2 ⟨q2, rfl, rfl⟩; unfold idx)
        go_roundg (l.length - (k + 1))
        case measure => omega
        case rel => exact ⟨k + 1, _, by rw [hst.out], by go_num, by omega, by omega, by first | rfl | exact (World.drewN_drewN _ _ _)⟩
      | some j =>
        rw [hcm] at hcame
        have hjk : j < k ∧ ∃ y, l[j]? = some y := by
          unfold came at hcm
          split at hcm
          · obtain ⟨h1, y, h2, _⟩ := first_lt hcm; exact ⟨h1, y, h2⟩
          · cases hcm
        obtain ⟨hj, y, hy⟩ := hjk
        have hjl : (j : Int) < (l.length : Int) := by omega
        have hj0 : (0 : Int) ≤ (j : Int) := by omega
        have y1 : w.cell? ⟨b, off + j * 11 + 1, none⟩ = some (.string y.raw) := HC.out j y hy 1 _ rfl
        have hry : (y.raw.size : Int) ≤ 2100 := by have := HL.out j y hy; omega
        have hst := sumRaw_snoc (pick all leaf) (went l k) x y
        rw [← went_some HX.out hcm hy] at hst
        have HST := Lib.hid hst
        have HCAME := Lib.hid hcame
        clear hcm hcame hst hy
        cases all with
        | true =>
          generalize sumRaw (pick true leaf) (went l k) = S at *
          go_wp2_with (go_at_call 112; refine (HCAME.out).mono ?_; rintro e w2 ⟨q2, rfl, rfl⟩; unfold idx)
          go_roundg (l.length - (k + 1))
          case measure => omega
          case rel => exact ⟨k + 1, _, by rw [HST.out]; simp [pick]; try go_num, by go_num, by omega, by omega, by first | rfl | exact (World.drewN_drewN _ _ _)⟩
        | false =>
          by_cases hq : x.leaf = leaf
          · have e1 : (x.leaf == leaf) = true := by rw [beq_iff_eq]; exact hq
            clear hq
            have hp : Hid (pick false leaf x = true) := Lib.hid (by unfold pick; rw [e1]; rfl)
            generalize sumRaw (pick false leaf) (went l k) = S at *
            go_wp2_with (go_at_call 112; refine (HCAME.out).mono ?_; rintro e w2 ⟨q2, rfl, rfl⟩; unfold idx)
            go_roundg (l.length - (k + 1))
            case measure => omega
            case rel => exact ⟨k + 1, _, by rw [HST.out, if_pos hp.out]; simp; try go_num, by go_num, by omega, by omega, by first | rfl | exact (World.drewN_drewN _ _ _)⟩
          · have e1 : (x.leaf == leaf) = false := by rw [beq_eq_false_iff_ne]; exact hq
            clear hq
            have hp : Hid (¬ pick false leaf x = true) := Lib.hid (by unfold pick; rw [e1]; decide)
            generalize sumRaw (pick false leaf) (went l k) = S at *
            go_wp2_with (go_at_call 112; refine (HCAME.out).mono ?_; rintro e w2 ⟨q2, rfl, rfl⟩; unfold idx)
            go_roundg (l.length - (k + 1))
            case measure => omega
            case rel => exact ⟨k + 1, _, by rw [HST.out, if_neg hp.out], by go_num, by omega, by omega, by first | rfl | exact (World.drewN_drewN _ _ _)⟩
    · have hltz : ¬ (k : Int) < (l.length : Int) := by omega
      obtain rfl : k = l.length := by omega
      go_wp2
      go_ret
      exact ⟨_, rfl, by first | rfl | exact (World.drewN_drewN _ _ _)⟩

def quoS (a b : Int) : Nat := fop .quo (cf (floatOfInt .f64 a)) (cf (floatOfInt .f64 b))
def PartOk (a b : Int) (w : World) (e : Ending) (w' : World) : Prop := ∃ r q, e = .returned (.float .f64 r) ∧ cf r = quoS a b ∧ r < 18446744073709551616 ∧ w' = w.drewN q

set_option maxRecDepth 20000 in
set_option maxHeartbeats 1000000 in
theorem refpart_c (A : Option Addr) (n c : Nat) (leaf : Int) (l : List En) (hlen : l.length ≤ 1048576) (hl : ∀ (j : Nat) (x : En), l[j]? = some x → x.raw.size ≤ 2100) (N : Nat) (w : World) (hI : Ls N w (.slice A n c) l) :
    Calls Try.prog 35 #[.slice A n c, .int .i64 leaf] w (PartOk (sumRaw (pick false leaf) (went l l.length)) (sumRaw (pick true 0) (went l l.length)) w) := by
  have hh : ∀ lf a u, Ls N u (.slice A n c) l → Calls Try.prog 37 #[.slice A n c, .int .i64 lf, .bool a] u (CameOk (sumRaw (pick a lf) (went l l.length)) u) := fun lf a u hu => refbytes_c A n c lf a l hlen hl N u hu
  have HH := Lib.hid hh
  have L0 := Lib.hid hI
  have L1 : Hid (∀ q, Ls N (w.drewN q) (.slice A n c) l) := Lib.hid (fun q => hI.below (below_drewN (Below.refl N w) q))
  clear hh hI hl
  generalize went l l.length = ps at *
  go_enter Try.func35, Try.ntmps35
  go_wp2_with (go_at_call 37; refine (HH.out _ _ _ ?_).mono ?_; (first | exact L0.out | exact L1.out _); rintro e w2 ⟨q2, rfl, rfl⟩)
  go_ret
  exact ⟨_, _, rfl, cf_fbits _ _ _ _, fbits_lt _ _ _ _, by first | rfl | exact (World.drewN_drewN _ _ _) | (rw [World.drewN_drewN, World.drewN_drewN])⟩
end Go.Proofs.Ytdoemgccmjddcaa.Sr
