/- play. -/
import Derived.Test.YtdoemgccmjddcaaLd3
namespace Go.Proofs.Ytdoemgccmjddcaa.Ld
open Go.RowKit Go.Maps Wd Li Sr

theorem books_zero {xs : List Note} {k : Nat} {x : Note} (hx : xs[k]? = some x) (h : x.kind = 0) : books (xs.take (k + 1)) = fun i => if i = x.id then some { (books (xs.take k) x.id).getD Book.zero with got := ((books (xs.take k) x.id).getD Book.zero).got + 1, gotB := ((books (xs.take k) x.id).getD Book.zero).gotB + size x.n } else books (xs.take k) i := by
  rw [books_succ hx]; unfold upd; rw [if_pos (by simp [Note.counts, h])]; simp [step, h]
theorem books_one {xs : List Note} {k : Nat} {x : Note} (hx : xs[k]? = some x) (h : x.kind = 1) : books (xs.take (k + 1)) = fun i => if i = x.id then some { (books (xs.take k) x.id).getD Book.zero with sent := ((books (xs.take k) x.id).getD Book.zero).sent + 1, sentB := ((books (xs.take k) x.id).getD Book.zero).sentB + size x.n } else books (xs.take k) i := by
  rw [books_succ hx]; unfold upd; rw [if_pos (by simp [Note.counts, h])]; simp [step, h]
theorem books_two {xs : List Note} {k : Nat} {x : Note} (hx : xs[k]? = some x) (h : x.kind = 2) (hr : 1 ≤ x.n ∧ x.n ≤ 5) : books (xs.take (k + 1)) = fun i => if i = x.id then some (bump ((books (xs.take k) x.id).getD Book.zero) x.n) else books (xs.take k) i := by
  rw [books_succ hx]; unfold upd; rw [if_pos (by simp [Note.counts, h, hr])]; simp [step, h]
theorem books_bad {xs : List Note} {k : Nat} {x : Note} (hx : xs[k]? = some x) (h : x.kind = 2) (hr : x.n < 1 ∨ 5 < x.n) : books (xs.take (k + 1)) = books (xs.take k) := by
  rw [books_succ hx]; unfold upd; rw [if_neg]; simp [Note.counts, h]; omega
theorem books_else {xs : List Note} {k : Nat} {x : Note} (hx : xs[k]? = some x) (h0 : x.kind ≠ 0) (h1 : x.kind ≠ 1) (h2 : x.kind ≠ 2) : books (xs.take (k + 1)) = books (xs.take k) := by
  rw [books_succ hx]; unfold upd; rw [if_neg]; simp [Note.counts, h0, h1, h2]
theorem Led.more {w : World} {L M n n' : Nat} {f : Int → Option Book} (h : Led w L M n f) (hn : n ≤ n') : Led w L M n' f := by
  obtain ⟨D, hown, hA⟩ := h.map
  exact ⟨h.cell, D, hown.mono hn, hA⟩

def PlayOk (xs : List Note) (w : World) (e : Ending) (w' : World) : Prop := e = .returned (.pointer (some ⟨w.heap.size + 1, 0, none⟩)) ∧ Led w' (w.heap.size + 1) w.heap.size xs.length (books xs) ∧ Below w.heap.size w w'

set_option maxRecDepth 20000 in
set_option maxHeartbeats 2000000 in
theorem play_c (A : Option Addr) (n c : Nat) (xs : List Note) (hlen : xs.length ≤ 1048576) (hwf : ∀ (j : Nat) (x : Note), xs[j]? = some x → (Lit.int .i64 x.id).wf = true) (w : World) (hI : Lies 3 Note.cells w.heap.size w (.slice A n c) xs) :
    Calls Try.prog 53 #[.slice A n c] w (PlayOk xs w) := by
  obtain ⟨rfl, hcs⟩ := hI.parts
  have HCS := Lib.hid hcs
  have HWF := Lib.hid hwf
  have hled := Lib.hid (new_led w)
  clear hcs hI hwf
  go_enter Try.func53, Try.ntmps53
  go_wp2_with (go_at_call 126; refine (new_c _).mono ?_; rintro e w' ⟨rfl, rfl⟩)
  go_loopg [9] xs.length (fun kx s9 wr => ∃ k : Nat, s9 = .int .i64 k ∧ k ≤ xs.length ∧ xs.length - k ≤ kx ∧ Hid (Led wr (w.heap.size + 1) w.heap.size k (books (xs.take k))) ∧ Hid (Below w.heap.size w wr))
  case atStart => exact ⟨0, rfl, by omega, by omega, hled, Lib.hid (((Below.refl _ w).alloc (Nat.le_refl _) _).alloc (by simp) _)⟩
  case round =>
    obtain ⟨k, rfl, hk, hkx, HL, HW⟩ := hrel
    by_cases hlt : k < xs.length
    · have hltz : (k : Int) < (xs.length : Int) := by omega
      obtain ⟨x, hx⟩ : ∃ x, xs[k]? = some x := ⟨xs[k], List.getElem?_eq_getElem hlt⟩
      obtain ⟨b, off, rfl, hb, hc⟩ := HCS.out (by omega)
      have hcx : ∀ (i : Nat) (v : Value), x.cells[i]? = some v → wr.cell? ⟨b, off + k * 3 + i, none⟩ = some v := fun i v hv => (HW.out.cell (p := ⟨b, off + k * 3 + i, none⟩) hb).trans (hc k x hx i v hv)
      have c0 : wr.cell? ⟨b, off + k * 3, none⟩ = some (.int .i64 x.kind) := hcx 0 _ rfl
      have c1 := hcx 1 _ rfl; have c2 := hcx 2 _ rfl
      have hltL := lt_of_get HL.out.cell
      have hL1 : Led (wr.alloc (.cells #[.int .i64 x.kind, .int .i64 x.id, .int .i64 x.n] 150)) (w.heap.size + 1) w.heap.size k (books (xs.take k)) :=
        HL.out.below ((Below.refl wr.heap.size wr).alloc (Nat.le_refl _) _) hltL HL.out.lt
      have hW1 : Below w.heap.size w (wr.alloc (.cells #[.int .i64 x.kind, .int .i64 x.id, .int .i64 x.n] 150)) := HW.out.alloc HW.out.size _
      have hlow : ((books (xs.take k) x.id).getD Book.zero).low 4611686018 := low_up (books_low _ _) (by rw [List.length_take]; omega)
      have hidwf := HWF.out k x hx
      have hsw := HW.out.size
      have HX := Lib.hid hx
      have HL1 := Lib.hid hL1; have HW1 := Lib.hid hW1; have HLOW := Lib.hid hlow
      clear hx hc hcx hb hL1 hW1 hlow
      by_cases h0 : x.kind = 0
      · have e0 : (x.kind == 0) = true := by rw [beq_iff_eq]; exact h0
        have hcall := got_c _ _ _ _ x.id x.n hidwf (by omega) HLOW.out _ HL1.out
        rw [← books_zero HX.out h0] at hcall
        have HC := Lib.hid hcall
        clear hcall h0
        go_wp2_with (go_at_call 62; refine (HC.out).mono ?_; rintro e w2 ⟨v2, rfl, hl2, hg2⟩)
        go_roundg (xs.length - (k + 1))
        case measure => omega
        case rel => exact ⟨k + 1, by go_num, by omega, by omega, Lib.hid hl2, Lib.hid (HW1.out.grown hg2 (by simp; omega) (fun j hj => by cases hj; exact Nat.le_refl _))⟩
      · have e0 : (x.kind == 0) = false := by rw [beq_eq_false_iff_ne]; exact h0
        by_cases h1 : x.kind = 1
        · have e1 : (x.kind == 1) = true := by rw [beq_iff_eq]; exact h1
          have hcall := sent_c _ _ _ _ x.id x.n hidwf (by omega) HLOW.out _ HL1.out
          rw [← books_one HX.out h1] at hcall
          have HC := Lib.hid hcall
          clear hcall h0 h1
          go_wp2_with (go_at_call 63; refine (HC.out).mono ?_; rintro e w2 ⟨v2, rfl, hl2, hg2⟩)
          go_roundg (xs.length - (k + 1))
          case measure => omega
          case rel => exact ⟨k + 1, by go_num, by omega, by omega, Lib.hid hl2, Lib.hid (HW1.out.grown hg2 (by simp; omega) (fun j hj => by cases hj; exact Nat.le_refl _))⟩
        · have e1 : (x.kind == 1) = false := by rw [beq_eq_false_iff_ne]; exact h1
          by_cases h2 : x.kind = 2
          · have e2 : (x.kind == 2) = true := by rw [beq_iff_eq]; exact h2
            by_cases hr : x.n < 1 ∨ 5 < x.n
            · have hcall := lost_bad (w.heap.size + 1) x.id x.n hr (wr.alloc (.cells #[.int .i64 x.kind, .int .i64 x.id, .int .i64 x.n] 150))
              have HB := Lib.hid (books_bad HX.out h2 hr)
              have HC := Lib.hid hcall
              clear hcall h0 h1 h2 hr
              go_wp2_with (go_at_call 64; refine (HC.out).mono ?_; rintro e w2 ⟨v2, rfl, rfl⟩)
              go_roundg (xs.length - (k + 1))
              case measure => omega
              case rel => exact ⟨k + 1, by go_num, by omega, by omega, Lib.hid (by rw [HB.out]; exact HL1.out.more (Nat.le_succ k)), HW1⟩
            · have hcall := lost_good _ _ _ _ x.id x.n hidwf (by omega) HLOW.out (by omega) _ HL1.out
              rw [← books_two HX.out h2 (by omega)] at hcall
              have HC := Lib.hid hcall
              clear hcall h0 h1 h2 hr
              go_wp2_with (go_at_call 64; refine (HC.out).mono ?_; rintro e w2 ⟨v2, rfl, hl2, hg2⟩)
              go_roundg (xs.length - (k + 1))
              case measure => omega
              case rel => exact ⟨k + 1, by go_num, by omega, by omega, Lib.hid hl2, Lib.hid (HW1.out.grown hg2 (by simp; omega) (fun j hj => by cases hj; exact Nat.le_refl _))⟩
          · have e2 : (x.kind == 2) = false := by rw [beq_eq_false_iff_ne]; exact h2
            have HB := Lib.hid (books_else HX.out h0 h1 h2)
            clear h0 h1 h2
            go_wp2_with fail
            go_roundg (xs.length - (k + 1))
            case measure => omega
            case rel => exact ⟨k + 1, by go_num, by omega, by omega, Lib.hid (by rw [HB.out]; exact HL1.out.more (Nat.le_succ k)), HW1⟩
    · have hltz : ¬ (k : Int) < (xs.length : Int) := by omega
      obtain rfl : k = xs.length := by omega
      go_wp2
      go_ret
      exact ⟨rfl, by have := HL.out; rwa [List.take_length] at this, HW.out⟩
end Go.Proofs.Ytdoemgccmjddcaa.Ld
