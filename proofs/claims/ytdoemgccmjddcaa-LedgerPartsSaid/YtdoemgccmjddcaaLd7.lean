/- The document's Of and Reason. -/
import Derived.Test.YtdoemgccmjddcaaLd6
namespace Go.Proofs.Ytdoemgccmjddcaa.Ld
open Go.RowKit Go.Maps Wd Li Sr Sw

theorem books_other {xs : List Note} {k : Nat} {x : Note} {id : Int} (hx : xs[k]? = some x) (h : ¬ (x.id = id ∧ x.counts = true)) : books (xs.take (k + 1)) id = books (xs.take k) id := by
  rw [books_succ hx]; unfold upd
  split
  · rename_i hc
    simp only
    rw [if_neg]
    intro e
    exact h ⟨e.symm, hc⟩
  · rfl
theorem books_hit {xs : List Note} {k : Nat} {x : Note} (hx : xs[k]? = some x) (h : x.counts = true) : (books (xs.take (k + 1)) x.id).getD Book.zero = step ((books (xs.take k) x.id).getD Book.zero) x := by
  rw [books_succ hx]; unfold upd
  rw [if_pos h]
  simp
theorem loss_bump {b : Book} {n r : Int} (hn : 1 ≤ n ∧ n ≤ 5) : lossOf (bump b n) r = lossOf b r + if n = r then 1 else 0 := by
  obtain rfl | rfl | rfl | rfl | rfl : n = 1 ∨ n = 2 ∨ n = 3 ∨ n = 4 ∨ n = 5 := by omega
  all_goals
    unfold bump lossOf
    by_cases h1 : r = 1
    · subst h1; simp
    · by_cases h2 : r = 2
      · subst h2; simp
      · by_cases h3 : r = 3
        · subst h3; simp
        · by_cases h4 : r = 4
          · subst h4; simp
          · by_cases h5 : r = 5
            · subst h5; simp
            · have e1 : ¬ (1 : Int) = r := fun e => h1 e.symm
              have e2 : ¬ (2 : Int) = r := fun e => h2 e.symm
              have e3 : ¬ (3 : Int) = r := fun e => h3 e.symm
              have e4 : ¬ (4 : Int) = r := fun e => h4 e.symm
              have e5 : ¬ (5 : Int) = r := fun e => h5 e.symm
              simp [h1, h2, h3, h4, h5, e1, e2, e3, e4, e5]
theorem loss_step {xs : List Note} {k : Nat} {x : Note} {id r : Int} (hx : xs[k]? = some x) :
    lossOf ((books (xs.take (k + 1)) id).getD Book.zero) r = lossOf ((books (xs.take k) id).getD Book.zero) r + if x.kind = 2 ∧ x.id = id ∧ x.n = r ∧ x.counts = true then 1 else 0 := by
  by_cases h : x.id = id ∧ x.counts = true
  · obtain ⟨rfl, hc⟩ := h
    rw [books_hit hx hc]
    generalize (books (xs.take k) x.id).getD Book.zero = b
    unfold step
    by_cases h0 : x.kind = 0
    · rw [if_pos h0, if_neg (by omega)]; simp [lossOf]
    · rw [if_neg h0]
      by_cases h1 : x.kind = 1
      · rw [if_pos h1, if_neg (by omega)]; simp [lossOf]
      · rw [if_neg h1]
        have h2 : x.kind = 2 ∧ (1 ≤ x.n ∧ x.n ≤ 5) := by simpa [Note.counts, h0, h1] using hc
        rw [loss_bump h2.2]
        simp [h2.1, hc]
  · rw [books_other hx h, if_neg (by rintro ⟨_, h2, _, h4⟩; exact h ⟨h2, h4⟩)]
    simp
theorem loss_low {b : Book} {m : Int} (r : Int) (h : b.low m) (hm : 0 ≤ m) : 0 ≤ lossOf b r ∧ lossOf b r ≤ m := by
  unfold Book.low at h
  unfold lossOf
  split
  · omega
  · split
    · omega
    · split
      · omega
      · split
        · omega
        · split <;> omega

set_option maxRecDepth 20000 in
set_option maxHeartbeats 2000000 in
theorem refreason_c (A : Option Addr) (n c : Nat) (xs : List Note) (id r : Int) (hlen : xs.length ≤ 1048576) (w : World) (hI : Lies 3 Note.cells w.heap.size w (.slice A n c) xs) :
    Calls Try.prog 57 #[.slice A n c, .int .i64 id, .int .i64 r] w fun e w' => e = .returned (.int .i64 (lossOf ((books xs id).getD Book.zero) r)) ∧ Below w.heap.size w w' := by
  obtain ⟨rfl, hcs⟩ := hI.parts
  have HCS := Lib.hid hcs
  clear hcs hI
  go_enter Try.func57, Try.ntmps57
  go_wp2_with fail
  go_loopg [7, 8] xs.length (fun kx s7 s8 wr => ∃ k : Nat, s7 = .int .i64 (lossOf ((books (xs.take k) id).getD Book.zero) r) ∧ s8 = .int .i64 k ∧ k ≤ xs.length ∧ xs.length - k ≤ kx ∧ Hid (Below w.heap.size w wr))
  case atStart => exact ⟨0, by simp [books, lossOf, Book.zero], rfl, by omega, by omega, Lib.hid (Below.refl _ w)⟩
  case round =>
    obtain ⟨k, rfl, rfl, hk, hkx, HW⟩ := hrel
    have hlow := loss_low r (books_low (xs.take k) id) (by omega)
    rw [List.length_take] at hlow
    have hS0 : 0 ≤ lossOf ((books (xs.take k) id).getD Book.zero) r := hlow.1
    have hS1 : lossOf ((books (xs.take k) id).getD Book.zero) r ≤ 4611686018 := by omega
    clear hlow
    by_cases hlt : k < xs.length
    · have hltz : (k : Int) < (xs.length : Int) := by omega
      obtain ⟨x, hx⟩ : ∃ x, xs[k]? = some x := ⟨xs[k], List.getElem?_eq_getElem hlt⟩
      obtain ⟨b, off, rfl, hb, hc⟩ := HCS.out (by omega)
      have hcx : ∀ (i : Nat) (v : Value), x.cells[i]? = some v → wr.cell? ⟨b, off + k * 3 + i, none⟩ = some v := fun i v hv => (HW.out.cell (p := ⟨b, off + k * 3 + i, none⟩) hb).trans (hc k x hx i v hv)
      have c0 : wr.cell? ⟨b, off + k * 3, none⟩ = some (.int .i64 x.kind) := hcx 0 _ rfl
      have c1 := hcx 1 _ rfl; have c2 := hcx 2 _ rfl
      have hst := loss_step (id := id) (r := r) hx
      have hcn := counts_c x
      have HST := Lib.hid hst
      have HX := Lib.hid hx
      clear hx hc hcx hb hst
      generalize lossOf ((books (xs.take k) id).getD Book.zero) r = S at *
      by_cases h0 : x.kind = 2
      · have e0 : (x.kind == 2) = true := by rw [beq_iff_eq]; exact h0
        by_cases h1 : x.id = id
        · have e1 : (x.id == id) = true := by rw [beq_iff_eq]; exact h1
          by_cases h2 : x.n = r
          · have e2 : (x.n == r) = true := by rw [beq_iff_eq]; exact h2
            cases hcc : x.counts with
            | true =>
              rw [hcc] at hcn
              unfold Note.agg at hcn
              have HCN := Lib.hid hcn
              have hS : Hid (lossOf ((books (xs.take (k + 1)) id).getD Book.zero) r = S + 1) := Lib.hid (by rw [HST.out, if_pos ⟨h0, h1, h2, hcc⟩])
              clear hcn h0 h1 h2 hcc
              go_wp2_with (go_at_call 128; refine (HCN.out _).mono ?_; rintro e w2 ⟨rfl, hb2⟩)
              go_roundg (xs.length - (k + 1))
              case measure => omega
              case rel => exact ⟨k + 1, by rw [hS.out], by go_num, by omega, by omega, Lib.hid (HW.out.trans (hb2.mono HW.out.size))⟩
            | false =>
              rw [hcc] at hcn
              unfold Note.agg at hcn
              have HCN := Lib.hid hcn
              have hS : Hid (lossOf ((books (xs.take (k + 1)) id).getD Book.zero) r = S) := Lib.hid (by rw [HST.out, if_neg (by rintro ⟨_, _, _, h⟩; rw [hcc] at h; cases h)]; omega)
              clear hcn h0 h1 h2 hcc
              go_wp2_with (go_at_call 128; refine (HCN.out _).mono ?_; rintro e w2 ⟨rfl, hb2⟩)
              go_roundg (xs.length - (k + 1))
              case measure => omega
              case rel => exact ⟨k + 1, by rw [hS.out], by go_num, by omega, by omega, Lib.hid (HW.out.trans (hb2.mono HW.out.size))⟩
          · have e2 : (x.n == r) = false := by rw [beq_eq_false_iff_ne]; exact h2
            have hS : Hid (lossOf ((books (xs.take (k + 1)) id).getD Book.zero) r = S) := Lib.hid (by rw [HST.out, if_neg (by rintro ⟨_, _, h, _⟩; exact h2 h)]; omega)
            clear hcn h0 h1 h2
            go_wp2_with fail
            go_roundg (xs.length - (k + 1))
            case measure => omega
            case rel => exact ⟨k + 1, by rw [hS.out], by go_num, by omega, by omega, HW⟩
        · have e1 : (x.id == id) = false := by rw [beq_eq_false_iff_ne]; exact h1
          have hS : Hid (lossOf ((books (xs.take (k + 1)) id).getD Book.zero) r = S) := Lib.hid (by rw [HST.out, if_neg (by rintro ⟨_, h, _⟩; exact h1 h)]; omega)
          clear hcn h0 h1
          go_wp2_with fail
          go_roundg (xs.length - (k + 1))
          case measure => omega
          case rel => exact ⟨k + 1, by rw [hS.out], by go_num, by omega, by omega, HW⟩
      · have e0 : (x.kind == 2) = false := by rw [beq_eq_false_iff_ne]; exact h0
        have hS : Hid (lossOf ((books (xs.take (k + 1)) id).getD Book.zero) r = S) := Lib.hid (by rw [HST.out, if_neg (by rintro ⟨h, _⟩; exact h0 h)]; omega)
        clear hcn h0
        go_wp2_with fail
        go_roundg (xs.length - (k + 1))
        case measure => omega
        case rel => exact ⟨k + 1, by rw [hS.out], by go_num, by omega, by omega, HW⟩
    · have hltz : ¬ (k : Int) < (xs.length : Int) := by omega
      obtain rfl : k = xs.length := by omega
      go_wp2
      go_ret
      exact ⟨rfl, HW.out⟩
end Go.Proofs.Ytdoemgccmjddcaa.Ld
