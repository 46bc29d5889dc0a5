/- class.Find. -/
import Derived.Test.YtdoemgccmjddcaaSs13
namespace Go.Proofs.Ytdoemgccmjddcaa.So
open Go.RowKit Go.Shelf Cl Wd

set_option maxRecDepth 20000 in
set_option maxHeartbeats 2000000 in
theorem indexFunc_c (A : Option Addr) (len cap : Nat) (zs : List Cls) (id : Int) (B : Nat) (hlen : zs.length ≤ 1048576) (w : World) (hI : Holds w.heap.size w (.slice A len cap) zs) (hB : B < w.heap.size) (hcB : w.cell? ⟨B, 0, none⟩ = some (.int .i64 id)) :
    Calls Try.prog 124 #[.slice A len cap, .func (.func 125) #[] #[.pointer (some ⟨B, 0, none⟩)]] w fun e w' => e = .returned (.int .i64 (findC zs id)) ∧ Below w.heap.size w w' := by
  obtain ⟨rfl, hcs⟩ : len = zs.length ∧ (0 < zs.length → ∃ b off, A = some ⟨b, off, none⟩ ∧ b < w.heap.size ∧ ∀ (j : Nat) (x : Cls), zs[j]? = some x → ∀ (i : Nat) (v : Value), x.cells[i]? = some v → w.cell? ⟨b, off + j * 11 + i, none⟩ = some v) := by
    rcases hI with ⟨e, rfl⟩ | ⟨b, off, c, e, hb, hc⟩
    · cases e; exact ⟨rfl, fun h => absurd h (by simp)⟩
    · obtain ⟨rfl, rfl, rfl⟩ := Value.slice.inj e
      exact ⟨rfl, fun _ => ⟨b, off, rfl, hb, hc⟩⟩
  have HCS := Lib.hid hcs
  have HCB := Lib.hid hcB
  clear hcs hI hcB
  have eg : ∀ args w, (callFunc 125 args).run Try.prog w = .ok (.enter 125 args) w := enters_of Try.func125 (by kernel_rfl) rfl
  go_enter Try.func124, Try.ntmps124
  go_wp2
  go_loopg [8] zs.length (fun kx s8 wr => ∃ k : Nat, s8 = .int .i64 k ∧ k ≤ zs.length ∧ zs.length - k ≤ kx ∧ Hid (Below w.heap.size w wr) ∧ Hid (∀ j y, j < k → zs[j]? = some y → y.id ≠ id))
  case atStart => exact ⟨0, rfl, by omega, by omega, Lib.hid (Below.refl _ w), Lib.hid (fun j y h => absurd h (by omega))⟩
  case round =>
    obtain ⟨k, rfl, hk, hkx, HW, HN⟩ := hrel
    by_cases hlt : k < zs.length
    · have hltz : (k : Int) < (zs.length : Int) := by omega
      obtain ⟨x, hx⟩ : ∃ x, zs[k]? = some x := ⟨zs[k], List.getElem?_eq_getElem hlt⟩
      obtain ⟨b, off, rfl, hb, hc⟩ := HCS.out (by omega)
      have hcx : ∀ (i : Nat) (v : Value), x.cells[i]? = some v → wr.cell? ⟨b, off + k * 11 + i, none⟩ = some v := fun i v hv => (HW.out.cell (p := ⟨b, off + k * 11 + i, none⟩) hb).trans (hc k x hx i v hv)
      have c0 : wr.cell? ⟨b, off + k * 11, none⟩ = some (.int .i64 x.id) := hcx 0 _ rfl
      have c1 := hcx 1 _ rfl; have c2 := hcx 2 _ rfl; have c3 := hcx 3 _ rfl; have c4 := hcx 4 _ rfl; have c5 := hcx 5 _ rfl
      have c6 := hcx 6 _ rfl; have c7 := hcx 7 _ rfl; have c8 := hcx 8 _ rfl; have c9 := hcx 9 _ rfl; have c10 := hcx 10 _ rfl
      have HX := Lib.hid hx
      have hf := found_c x id B wr (Nat.lt_of_lt_of_le hB HW.out.size) ((HW.out.cell (p := ⟨B, 0, none⟩) hB).trans HCB.out)
      have HF := Lib.hid hf
      clear hx hc hcx hb hf
      by_cases he : x.id = id
      · have hq : (x.id == id) = true := by simpa using he
        have HE := Lib.hid he
        rw [hq] at HF
        clear he hq
        go_wp2_with (go_at_call 125; refine (HF.out).mono ?_; rintro e w1 ⟨rfl, hb1⟩)
        go_ret
        exact ⟨by rw [findC_hit HX.out HE.out HN.out]; rfl, HW.out.trans (hb1.mono HW.out.size)⟩
      · have hq : (x.id == id) = false := by simpa using he
        have HE := Lib.hid he
        rw [hq] at HF
        clear he hq
        go_wp2_with (go_at_call 125; refine (HF.out).mono ?_; rintro e w1 ⟨rfl, hb1⟩)
        go_roundg (zs.length - (k + 1))
        case measure => omega
        case rel => exact ⟨k + 1, by go_num, by omega, by omega, Lib.hid (HW.out.trans (hb1.mono HW.out.size)), Lib.hid (fun j y hj hy => by
            by_cases e : j = k
            · subst e; rw [HX.out] at hy; cases hy; exact HE.out
            · exact HN.out j y (by omega) hy)⟩
    · have hltz : ¬ (k : Int) < (zs.length : Int) := by omega
      go_wp2
      go_ret
      exact ⟨by rw [findC_miss (fun j y hy => HN.out j y (by have := (List.getElem?_eq_some_iff.1 hy).1; omega) hy)]; rfl, HW.out⟩

/-- class.Find -/
theorem find_c (A : Option Addr) (len cap : Nat) (zs : List Cls) (id : Int) (hlen : zs.length ≤ 1048576) (w : World) (hI : Holds w.heap.size w (.slice A len cap) zs) :
    Calls Try.prog 50 #[.slice A len cap, .int .i64 id] w fun e w' => e = .returned (.int .i64 (findC zs id)) ∧ Below w.heap.size w w' := by
  have hB0 : Below w.heap.size w (w.alloc (.cells #[.int .i64 id] 3)) := (Below.refl _ w).alloc (Nat.le_refl _) _
  have h1 := indexFunc_c A len cap zs id w.heap.size hlen (w.alloc (.cells #[.int .i64 id] 3)) (by
    rcases hI.below hB0 with h | ⟨b, off, c, e1, e2, e3⟩
    · exact .inl h
    · exact .inr ⟨b, off, c, e1, by simp; omega, e3⟩) (by simp) (by simp)
  go_enter Try.func50, Try.ntmps50
  go_wp2_with (go_at_call 124; refine h1.mono ?_; rintro e w2 ⟨rfl, b2⟩)
  go_ret
  exact ⟨rfl, hB0.trans (b2.mono (by simp))⟩
end Go.Proofs.Ytdoemgccmjddcaa.So
