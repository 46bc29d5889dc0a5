/- The reference's Has. -/
import Derived.Test.YtdoemgccmjddcaaPaM
namespace Go.Proofs.Ytdoemgccmjddcaa.Pa
open Go.RowKit Go.Maps Go.Proofs.Ytdoemgccmjddcaa.Wd Go.Proofs.Ytdoemgccmjddcaa.Li Go.Proofs.Ytdoemgccmjddcaa.Mp Go.Proofs.Ytdoemgccmjddcaa.Tp Go.Proofs.Ytdoemgccmjddcaa.Tr Go.Proofs.Ytdoemgccmjddcaa.Cl Go.Proofs.Ytdoemgccmjddcaa.So Go.Proofs.Ytdoemgccmjddcaa.Sw

theorem has_snoc {zs : List Int} {v y : Int} {k : Nat} (h : zs[k]? = some y) (hn : v ∉ zs.take k) (hy : (y == v) = false) : v ∉ zs.take (k + 1) := by
  rw [List.take_add_one, h]
  intro hm
  rcases List.mem_append.1 hm with h1 | h1
  · exact hn h1
  · simp at h1; subst h1; simp at hy
set_option maxRecDepth 20000 in
set_option maxHeartbeats 1000000 in
theorem has_c (A : Option Addr) (c B : Nat) (zs : List Int) (v : Int) (hlen : zs.length ≤ 1048576) (w : World) (hs : Sl w B 1 A zs.length (St.I zs)) :
    Calls Try.prog 93 #[.slice A zs.length c, .int .i64 v] w fun e w' => e = .returned (.bool (decide (v ∈ zs))) ∧ w = w' := by
  have HS := Lib.hid hs
  clear hs
  go_enter Try.func93, Try.ntmps93
  go_wp2
  go_loopg [5] zs.length (fun kx s5 wr => ∃ (k : Nat), s5 = .int .i64 k ∧ k ≤ zs.length ∧ zs.length - k ≤ kx ∧ wr = w ∧ Hid (v ∉ zs.take k))
  case atStart => exact ⟨0, rfl, by omega, by omega, rfl, Lib.hid (by simp)⟩
  case round =>
    obtain ⟨k, rfl, hk, hkx, rfl, HN⟩ := hrel
    by_cases hlt : k < zs.length
    · have hltz : (k : Int) < (zs.length : Int) := by omega
      obtain ⟨a, u, rfl, hab, hu, hc⟩ := HS.out.cell1 (k := k) hlt
      unfold St.I at hu
      simp only [List.getElem?_map] at hu
      obtain ⟨y, hy0, rfl⟩ := Option.map_eq_some_iff.1 hu
      have HY := Lib.hid hy0
      clear hu hy0
      cases hq : (y == v) with
      | true =>
        have HV : Hid (decide (v ∈ zs) = true) := Lib.hid (decide_eq_true (by have := eq_of_beq hq; subst this; exact List.mem_of_getElem? HY.out))
        go_wp2
        go_ret
        exact ⟨by rw [HV.out]; rfl, rfl⟩
      | false =>
        have HQ := Lib.hid (has_snoc HY.out HN.out hq)
        go_wp2
        go_roundg (zs.length - (k + 1))
        case measure => omega
        case rel => exact ⟨k + 1, by go_num, by omega, by omega, rfl, HQ⟩
    · have hltz : ¬ (k : Int) < (zs.length : Int) := by omega
      obtain rfl : k = zs.length := by omega
      have HV : Hid (decide (v ∈ zs) = false) := Lib.hid (decide_eq_false (by have := HN.out; rwa [List.take_length] at this))
      go_wp2
      go_ret
      exact ⟨by rw [HV.out]; rfl, rfl⟩
end Go.Proofs.Ytdoemgccmjddcaa.Pa
