/- slices.Contains, slices.Index on ints. -/
import Derived.Test.YtdoemgccmjddcaaLd14
namespace Go.Proofs.Ytdoemgccmjddcaa.Ld
open Go.RowKit Go.Maps Wd Li Sr Sw

def IdxOk (xs : List Int) (v : Int) (w : World) (e : Ending) (w' : World) : Prop := ((∃ k : Nat, v ∈ xs ∧ e = .returned (.int .i64 (k : Int))) ∨ (v ∉ xs ∧ e = .returned (.int .i64 (-1)))) ∧ w = w'
theorem take_mem {xs : List Int} {k : Nat} {x v : Int} (h : xs[k]? = some x) : v ∈ xs.take (k + 1) ↔ v ∈ xs.take k ∨ v = x := by
  rw [List.take_add_one, h]; simp
set_option maxRecDepth 20000 in
set_option maxHeartbeats 1000000 in
theorem index_c (A : Option Addr) (c : Nat) (xs : List Int) (v : Int) (hx : xs.length ≤ 1048576) (B : Nat) (w : World) (h1 : Sl w B 1 A xs.length (St.I xs)) :
    Calls Try.prog 156 #[.slice A xs.length c, .int .i64 v] w (IdxOk xs v w) := by
  have H1 := Lib.hid h1
  clear h1
  go_enter Try.func156, Try.ntmps156
  go_wp2
  go_loopg [8] xs.length (fun kx s8 wr => ∃ k : Nat, s8 = .int .i64 k ∧ k ≤ xs.length ∧ xs.length - k ≤ kx ∧ wr = w ∧ Hid (v ∉ xs.take k))
  case atStart => exact ⟨0, rfl, by omega, by omega, rfl, Lib.hid (by simp)⟩
  case round =>
    obtain ⟨k, rfl, hk, hkx, rfl, HN⟩ := hrel
    by_cases hlt : k < xs.length
    · have hltz : (k : Int) < (xs.length : Int) := by omega
      obtain ⟨a, u, rfl, hab, hu, hc⟩ := H1.out.cell1 (k := k) hlt
      unfold St.I at hu
      simp only [List.getElem?_map] at hu
      obtain ⟨x, hx0, rfl⟩ := Option.map_eq_some_iff.1 hu
      have HX := Lib.hid hx0
      clear hu hx0
      by_cases hv : v = x
      · have e1 : (v == x) = true := by rw [beq_iff_eq]; exact hv
        have HV := Lib.hid hv
        clear hv
        go_wp2
        go_ret
        exact ⟨.inl ⟨k, by rw [HV.out]; exact List.mem_of_getElem? HX.out, rfl⟩, rfl⟩
      · have e1 : (v == x) = false := by rw [beq_eq_false_iff_ne]; exact hv
        have HV := Lib.hid hv
        clear hv
        go_wp2
        go_roundg (xs.length - (k + 1))
        case measure => omega
        case rel => exact ⟨k + 1, by go_num, by omega, by omega, rfl, Lib.hid (by rw [take_mem HX.out]; exact fun h => h.elim HN.out HV.out)⟩
    · have hltz : ¬ (k : Int) < (xs.length : Int) := by omega
      obtain rfl : k = xs.length := by omega
      go_wp2
      go_ret
      exact ⟨.inr ⟨by have := HN.out; rwa [List.take_length] at this, rfl⟩, rfl⟩
set_option maxRecDepth 20000 in
theorem contains_c (A : Option Addr) (c : Nat) (xs : List Int) (v : Int) (hx : xs.length ≤ 1048576) (B : Nat) (w : World) (h1 : Sl w B 1 A xs.length (St.I xs)) :
    Calls Try.prog 134 #[.slice A xs.length c, .int .i64 v] w fun e w' => e = .returned (.bool (decide (v ∈ xs))) ∧ w = w' := by
  have H := Lib.hid (index_c A c xs v hx B w h1)
  by_cases hv : v ∈ xs
  · have hd : decide (v ∈ xs) = true := decide_eq_true hv
    rw [hd]
    have HV := Lib.hid hv
    clear h1 hv hd
    go_enter Try.func134, Try.ntmps134
    go_wp2_with (go_at_call 156; refine (H.out).mono ?_; rintro e w' ⟨⟨k, _, rfl⟩ | ⟨hn, _⟩, rfl⟩; rotate_left; exact absurd HV.out hn)
    go_ret
    exact ⟨rfl, rfl⟩
  · have hd : decide (v ∈ xs) = false := decide_eq_false hv
    rw [hd]
    have HV := Lib.hid hv
    clear h1 hv hd
    go_enter Try.func134, Try.ntmps134
    go_wp2_with (go_at_call 156; refine (H.out).mono ?_; rintro e w' ⟨⟨k, hn, _⟩ | ⟨_, rfl⟩, rfl⟩; exact absurd hn HV.out)
    go_ret
    exact ⟨rfl, rfl⟩
end Go.Proofs.Ytdoemgccmjddcaa.Ld
