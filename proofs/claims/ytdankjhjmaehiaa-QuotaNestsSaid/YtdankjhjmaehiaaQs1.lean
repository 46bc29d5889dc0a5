/- Shares: Of, Total, Same: the program's and the document's. -/
import Derived.Test.YtdankjhjmaehiaaQd1
import Derived.Test.YtdankjhjmaehiaaSrM
namespace Go.Proofs.Ytdankjhjmaehiaa.Qu
open Go.RowKit Go.Proofs.Ytdankjhjmaehiaa.Wd Go.Proofs.Ytdankjhjmaehiaa.Fl Go.Proofs.Ytdankjhjmaehiaa.St Go.Proofs.Ytdankjhjmaehiaa.Cl

def sumS (zs : List Nat) : Nat := zs.sum
theorem fx_bits {u v : Nat} (h : u + v < 2 ^ 53) : (∀ w, fbits .add (fx u) (fx v) w = fx (u + v)) ∧ fcount .add (fx u) (fx v) = 0 := by
  have := fx_add h
  exact ⟨fun w => by unfold fbits; rw [this]; rfl, by unfold fcount; rw [this]; rfl⟩
theorem of_c (u : Nat) (hu : u ≤ 1048576) (w : World) : Calls Try.prog 37 #[.int .i64 u] w fun e w' => e = .returned (.float .f64 (fx u)) ∧ ∃ n, w' = w.drewN n := by
  have hm1 : min (u : Int) 1048576 = (u : Int) := by omega
  have HL := Lib.hid (Ldexp_fx u hu w)
  by_cases h0 : u = 0
  · subst h0
    have HL := Lib.hid (show Calls Try.prog 55 #[.float .f64 (floatOfInt .f64 0), .int .i64 (-20)] w (fun e w' => e = .returned (.float .f64 (fx 0)) ∧ ∃ n, w' = w.drewN n) from Ldexp_fx 0 hu w)
    generalize fx 0 = z at *
    go_enter Try.func37, Try.ntmps37
    go_wp2_with (go_at_call 55; (with_reducible refine (HL.out).mono ?_); rintro e w' ⟨rfl, n, rfl⟩)
    go_ret
    exact ⟨rfl, n, rfl⟩
  · have h1 : (0 : Int) < (u : Int) := by omega
    generalize fx u = z at *
    go_enter Try.func37, Try.ntmps37
    go_wp2_with (go_at_call 55; (with_reducible refine (HL.out).mono ?_); rintro e w' ⟨rfl, n, rfl⟩)
    go_ret
    exact ⟨rfl, n, rfl⟩
theorem refof_c (u : Nat) (hu : u ≤ 1048576) (w : World) : Calls Try.prog 18 #[.int .i64 u] w fun e w' => e = .returned (.float .f64 (fx u)) ∧ w = w' := by
  by_cases h0 : u = 0
  · subst h0
    rw [fx_zero]
    go_enter Try.func18, Try.ntmps18
    go_wp2
    go_ret
    exact ⟨rfl, rfl⟩
  · have h1 : ¬ (u : Int) ≤ 0 := by omega
    by_cases h2 : u = 1048576
    · subst h2
      rw [fx_one]
      unfold one
      go_enter Try.func18, Try.ntmps18
      go_wp2
      go_ret
      exact ⟨rfl, rfl⟩
    · have h3 : ¬ (1048576 : Int) ≤ (u : Int) := by omega
      have hq := fx_quo (u := u) (by omega)
      unfold c20 at hq
      have hb : ∀ w, fbits .quo (floatOfInt .f64 (u : Int)) 4697254411347427328 w = fx u := fun w => by unfold fbits; rw [hq]; rfl
      have hc : fcount .quo (floatOfInt .f64 (u : Int)) 4697254411347427328 = 0 := by unfold fcount; rw [hq]; rfl
      clear hq
      generalize fx u = z at *
      go_enter Try.func18, Try.ntmps18
      go_wp2
      go_ret
      exact ⟨rfl, rfl⟩
theorem sum_snoc {zs : List Nat} {k y : Nat} (h : zs[k]? = some y) : (zs.take (k + 1)).sum = (zs.take k).sum + y := by
  rw [List.take_add_one, h, List.sum_append]; simp
theorem sum_take_le (zs : List Nat) (k : Nat) : (zs.take k).sum ≤ zs.sum := by
  conv => rhs; rw [← List.take_append_drop k zs, List.sum_append]
  omega
noncomputable def FX (zs : List Nat) : List Value := zs.map (fun u => .float .f64 (fx u))
set_option maxRecDepth 20000 in
theorem total_c (A : Option Addr) (c B : Nat) (zs : List Nat) (hlen : zs.length ≤ 1048576) (hsum : zs.sum < 2 ^ 53) (w : World) (hs : Sl w B 1 A zs.length (FX zs)) :
    Calls Try.prog 36 #[.slice A zs.length c] w fun e w' => e = .returned (.float .f64 (fx zs.sum)) ∧ w = w' := by
  have HS := Lib.hid hs
  clear hs
  go_enter Try.func36, Try.ntmps36
  go_wp2
  go_loopg [3, 8] zs.length (fun kx s3 s8 wr => ∃ (k : Nat), s8 = .int .i64 k ∧ s3 = .float .f64 (fx (zs.take k).sum) ∧ k ≤ zs.length ∧ zs.length - k ≤ kx ∧ wr = w)
  case atStart => exact ⟨0, rfl, by rw [List.take_zero, List.sum_nil, fx_zero], by omega, by omega, rfl⟩
  case round =>
    obtain ⟨k, rfl, rfl, hk, hkx, rfl⟩ := hrel
    by_cases hlt : k < zs.length
    · have hltz : (k : Int) < (zs.length : Int) := by omega
      obtain ⟨a, u, rfl, hab, hu, hc⟩ := HS.out.cell1 (k := k) hlt
      unfold FX at hu
      simp only [List.getElem?_map] at hu
      obtain ⟨y, hy0, rfl⟩ := Option.map_eq_some_iff.1 hu
      have hsn := sum_snoc hy0
      have hle := sum_take_le zs (k + 1)
      obtain ⟨b1, b2⟩ := fx_bits (u := (zs.take k).sum) (v := y) (by omega)
      have HS2 := Lib.hid hsn
      clear hu hy0 hsn hle
      generalize (zs.take k).sum = sk at *
      go_wp2
      go_roundg (zs.length - (k + 1))
      case measure => omega
      case rel => exact ⟨k + 1, by go_num, by rw [HS2.out], by omega, by omega, rfl⟩
    · have hltz : ¬ (k : Int) < (zs.length : Int) := by omega
      obtain rfl : k = zs.length := by omega
      rw [List.take_length]
      go_wp2
      go_ret
      exact ⟨rfl, rfl⟩
set_option maxRecDepth 20000 in
theorem reftotal_c (A : Option Addr) (c B : Nat) (zs : List Nat) (hlen : zs.length ≤ 1048576) (hsum : zs.sum < 2 ^ 53) (w : World) (hs : Sl w B 1 A zs.length (FX zs)) :
    Calls Try.prog 42 #[.slice A zs.length c] w fun e w' => e = .returned (.float .f64 (fx zs.sum)) ∧ w = w' := by
  have HS := Lib.hid hs
  clear hs
  go_enter Try.func42, Try.ntmps42
  go_wp2
  go_loopg [3, 4] zs.length (fun kx s3 s8 wr => ∃ (k : Nat), s8 = .int .i64 k ∧ s3 = .float .f64 (fx (zs.take k).sum) ∧ k ≤ zs.length ∧ zs.length - k ≤ kx ∧ wr = w)
  case atStart => exact ⟨0, rfl, by rw [List.take_zero, List.sum_nil, fx_zero], by omega, by omega, rfl⟩
  case round =>
    obtain ⟨k, rfl, rfl, hk, hkx, rfl⟩ := hrel
    by_cases hlt : k < zs.length
    · have hltz : (k : Int) < (zs.length : Int) := by omega
      obtain ⟨a, u, rfl, hab, hu, hc⟩ := HS.out.cell1 (k := k) hlt
      unfold FX at hu
      simp only [List.getElem?_map] at hu
      obtain ⟨y, hy0, rfl⟩ := Option.map_eq_some_iff.1 hu
      have hsn := sum_snoc hy0
      have hle := sum_take_le zs (k + 1)
      obtain ⟨b1, b2⟩ := fx_bits (u := (zs.take k).sum) (v := y) (by omega)
      have HS2 := Lib.hid hsn
      clear hu hy0 hsn hle
      generalize (zs.take k).sum = sk at *
      go_wp2
      go_roundg (zs.length - (k + 1))
      case measure => omega
      case rel => exact ⟨k + 1, by go_num, by rw [HS2.out], by omega, by omega, rfl⟩
    · have hltz : ¬ (k : Int) < (zs.length : Int) := by omega
      obtain rfl : k = zs.length := by omega
      rw [List.take_length]
      go_wp2
      go_ret
      exact ⟨rfl, rfl⟩
theorem same_fx (u : Nat) (hu : u < 2 ^ 53) (w : World) : Calls Try.prog 11 #[.float .f64 (fx u), .float .f64 (fx u)] w fun e w' => e = .returned (.bool true) ∧ w = w' := by
  have hn : nan (fx u) = false := (nan_false_iff _).2 (by have := (fx_spec hu).2; omega)
  have hl : fx u < 18446744073709551616 := by have := (fx_spec hu).2; omega
  have hf := fx_feq u hu
  have HN := Lib.hid (fun w => none_any (fx u) w)
  have HB := Lib.hid (fun w => below_any (fx u) hl w)
  rw [hn] at HN
  generalize hq : neg (fx u) = q at *
  have hqq : (q == q) = true := by simp
  clear hl hn hq
  generalize fx u = z at *
  go_enter Try.func11, Try.ntmps11
  go_wp2_with (first
    | (go_at_call 34; (with_reducible refine (HN.out _).mono ?_); rintro e w' ⟨rfl, rfl⟩)
    | (go_at_call 35; (with_reducible refine (HB.out _).mono ?_); rintro e w' ⟨rfl, rfl⟩))
  go_ret
  exact ⟨rfl, rfl⟩
end Go.Proofs.Ytdankjhjmaehiaa.Qu
