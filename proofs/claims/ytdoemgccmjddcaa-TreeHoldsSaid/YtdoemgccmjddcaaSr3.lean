/- The document's came. -/
import Derived.Test.YtdoemgccmjddcaaSr2
namespace Go.Proofs.Ytdoemgccmjddcaa.Sr
open Go.RowKit Wd Li

def idx : Option Nat → Int
  | some k => k
  | none => -1
def CameOk (i : Int) (w : World) (e : Ending) (w' : World) : Prop := ∃ q, e = .returned (.int .i64 i) ∧ w' = w.drewN q

set_option maxRecDepth 20000 in
set_option maxHeartbeats 4000000 in
theorem came_c (A : Option Addr) (n c at_ : Nat) (l : List En) (hlen : l.length ≤ 1048576) (N : Nat) (w : World) (hI : Ls N w (.slice A n c) l) (x : En) (hx : l[at_]? = some x) :
    Calls Try.prog 112 #[.slice A n c, .int .i64 at_] w (CameOk (idx (came l at_ x)) w) := by
  obtain ⟨rfl, hcs⟩ := hI.parts
  have hat : at_ < l.length := (List.getElem?_eq_some_iff.1 hx).1
  have hatz : (at_ : Int) < (l.length : Int) := by omega
  obtain ⟨b, off, rfl, _, hc⟩ := hcs (by omega)
  have x0 : w.cell? ⟨b, off + at_ * 11, none⟩ = some (.int .i64 x.kind) := hc at_ x hx 0 _ rfl
  have x4 := hc at_ x hx 4 _ rfl
  have HC := Lib.hid hc
  have HX := Lib.hid hx
  clear hcs hI hc hx
  go_enter Try.func112, Try.ntmps112
  go_wp2_with fail
  go_loopg [5] at_ (fun kx s5 wr => ∃ k q : Nat, s5 = .int .i64 k ∧ k ≤ at_ ∧ at_ - k ≤ kx ∧ wr = w.drewN q ∧ Hid (x.sent = true → first l k x.seq = none))
  case atStart => exact ⟨0, 0, rfl, by omega, by omega, rfl, Lib.hid (fun _ => rfl)⟩
  case round =>
    obtain ⟨k, q, rfl, hk, hkx, rfl, HN⟩ := hrel
    by_cases hlt : k < at_
    · have hltz : (k : Int) < (at_ : Int) := by omega
      have hkl : (k : Int) < (l.length : Int) := by omega
      obtain ⟨y, hy⟩ : ∃ y, l[k]? = some y := ⟨l[k], List.getElem?_eq_getElem (by omega)⟩
      have y0 : w.cell? ⟨b, off + k * 11, none⟩ = some (.int .i64 y.kind) := HC.out k y hy 0 _ rfl
      have y4 := HC.out k y hy 4 _ rfl
      have y7 := HC.out k y hy 7 _ rfl
      have HY := Lib.hid hy
      clear hy
      by_cases h0 : y.kind = 1
      · have e0 : (y.kind == 1) = true := by rw [beq_iff_eq]; exact h0
        have H0 := Lib.hid h0
        clear h0
        by_cases h1 : y.reason = 0
        · have e1 : (y.reason == 0) = true := by rw [beq_iff_eq]; exact h1
          have H1 := Lib.hid h1
          clear h1
          by_cases h2 : y.seq = x.seq
          · have e2 : (y.seq == x.seq) = true := by rw [beq_iff_eq]; exact h2
            have H2 := Lib.hid h2
            clear h2
            by_cases h3 : x.kind = 2
            · have e3 : (x.kind == 2) = true := by rw [beq_iff_eq]; exact h3
              have H3 := Lib.hid h3
              clear h3
              by_cases h4 : 0 < x.seq
              · have e4 : decide (0 < x.seq) = true := decide_eq_true h4
                have H4 := Lib.hid h4
                go_wp2_with fail
                go_quiet (fail)
                go_wp2
                go_ret
                refine ⟨_, ?_, by first | rfl | exact (World.drewN_drewN _ _ _)⟩
                have hs : x.sent = true := by simp [En.sent, H3.out, h4]
                have : came l at_ x = some k := by
                  unfold came
                  rw [if_pos hs]
                  exact first_is hlt HY.out ⟨by simp [En.kept, H0.out, H1.out], H2.out⟩ (fun i u hi hu => first_none (HN.out hs) i u hi hu)
                rw [this]; rfl
              · have e4 : decide (0 < x.seq) = false := decide_eq_false h4
                have H4 := Lib.hid h4
                go_wp2_with fail
                go_quiet (fail)
                go_wp2
                go_roundg (at_ - (k + 1))
                case measure => omega
                case rel => exact ⟨k + 1, _, by go_num, by omega, by omega, by first | rfl | exact (World.drewN_drewN _ _ _), Lib.hid (fun hs => by
                  have h0 := HN.out hs
                  unfold first
                  simp only [h0, HY.out]
                  rw [if_neg]
                  simp [En.sent] at hs; have := H4.out; omega)⟩
            · have e3 : (x.kind == 2) = false := by rw [beq_eq_false_iff_ne]; exact h3
              have H3 := Lib.hid h3
              clear h3
              go_wp2_with fail
              go_quiet (fail)
              go_wp2
              go_roundg (at_ - (k + 1))
              case measure => omega
              case rel => exact ⟨k + 1, _, by go_num, by omega, by omega, by first | rfl | exact (World.drewN_drewN _ _ _), Lib.hid (fun hs => by
                have h0 := HN.out hs
                unfold first
                simp only [h0, HY.out]
                rw [if_neg]
                simp [En.sent, H3.out] at hs)⟩
          · have e2 : (y.seq == x.seq) = false := by rw [beq_eq_false_iff_ne]; exact h2
            have H2 := Lib.hid h2
            clear h2
            go_wp2_with fail
            go_quiet (fail)
            go_wp2
            go_roundg (at_ - (k + 1))
            case measure => omega
            case rel => exact ⟨k + 1, _, by go_num, by omega, by omega, by first | rfl | exact (World.drewN_drewN _ _ _), Lib.hid (fun hs => by
              have h0 := HN.out hs
              unfold first
              simp only [h0, HY.out]
              rw [if_neg]
              simp [H2.out])⟩
        · have e1 : (y.reason == 0) = false := by rw [beq_eq_false_iff_ne]; exact h1
          have H1 := Lib.hid h1
          clear h1
          go_wp2_with fail
          go_quiet (fail)
          go_wp2
          go_roundg (at_ - (k + 1))
          case measure => omega
          case rel => exact ⟨k + 1, _, by go_num, by omega, by omega, by first | rfl | exact (World.drewN_drewN _ _ _), Lib.hid (fun hs => by
            have h0 := HN.out hs
            unfold first
            simp only [h0, HY.out]
            rw [if_neg]
            simp [En.kept, H1.out])⟩
      · have e0 : (y.kind == 1) = false := by rw [beq_eq_false_iff_ne]; exact h0
        have H0 := Lib.hid h0
        clear h0
        go_wp2_with fail
        go_quiet (fail)
        go_wp2
        go_roundg (at_ - (k + 1))
        case measure => omega
        case rel => exact ⟨k + 1, _, by go_num, by omega, by omega, by first | rfl | exact (World.drewN_drewN _ _ _), Lib.hid (fun hs => by
          have h0 := HN.out hs
          unfold first
          simp only [h0, HY.out]
          rw [if_neg]
          simp [En.kept, H0.out])⟩
    · have hltz : ¬ (k : Int) < (at_ : Int) := by omega
      obtain rfl : k = at_ := by omega
      go_wp2
      go_ret
      refine ⟨_, ?_, by first | rfl | exact (World.drewN_drewN _ _ _)⟩
      have : came l k x = none := by
        unfold came
        by_cases hs : x.sent = true
        · rw [if_pos hs]; exact HN.out hs
        · rw [if_neg hs]
      rw [this]; rfl
end Go.Proofs.Ytdoemgccmjddcaa.Sr
