/- slices.SortStableFunc's family at classes: rotate. -/
import Derived.Test.YtdoemgccmjddcaaSs1
namespace Go.Proofs.Ytdoemgccmjddcaa.So
open Go.Shelf Go.RowKit Go.Lib Go.Sort
variable {α : Type} [Inhabited α]

theorem swapRange_z {P : Program} {k : Nat} (L : SL P k) (enc : α → List Value) (g : Nat) (cb : Array Value) (blk off cap sz a b n : Nat) (d0 d : Array α) (w0 w : World)
    (R : RowK enc k w0 blk off d0) (hs : d0.size = sz) (hd : d.size = sz) (S : SWK enc k w0 blk off d w) (hab : a + n ≤ b) (hb : b + n ≤ sz) (hsz : sz < 4611686018427387904) (az bz nz : Int) (ea : az = a) (eb : bz = b) (en : nz = n) :
    Calls P 189 #[.slice (some ⟨blk, off, none⟩) sz cap, .int .i64 az, .int .i64 bz, .int .i64 nz, .func (.func g) #[] cb] w fun e w' => e = .returned (.tuple #[]) ∧ ∃ d', SwapR d d' a b n ∧ SWK enc k w0 blk off d' w' := by
  subst ea eb en hd
  exact swapRange_any L enc g cb blk off cap a b n d0 d w0 w R hs S hab hb hsz

/-- the elements from a to m and those from m to b have changed places -/
def RotR (d d' : Array α) (a m b : Nat) : Prop :=
  d'.size = d.size ∧ ∀ j : Nat, d'[j]! = if a ≤ j ∧ j < a + (b - m) then d[j + (m - a)]! else if a + (b - m) ≤ j ∧ j < b then d[j - (b - m)]! else d[j]!
theorem rot_gt {d d1 d' : Array α} {m i j : Nat} (hi : i ≤ m) (hij : j < i) (h1 : SwapR d d1 (m - i) m j) (h2 : RotR d1 d' (m - (i - j)) m (m + j)) : RotR d d' (m - i) m (m + j) := by
  refine ⟨h2.1.trans h1.1, fun t => ?_⟩
  rw [h2.2 t]
  split
  · rw [h1.2]
    (repeat' split) <;> first | (exfalso; omega) | rfl | (congr 1; omega)
  · split
    · rw [h1.2]
      (repeat' split) <;> first | (exfalso; omega) | rfl | (congr 1; omega)
    · rw [h1.2]
      (repeat' split) <;> first | (exfalso; omega) | rfl | (congr 1; omega)
theorem rot_lt {d d1 d' : Array α} {m i j : Nat} (hi : i ≤ m) (hij : i < j) (h1 : SwapR d d1 (m - i) (m + j - i) i) (h2 : RotR d1 d' (m - i) m (m + (j - i))) : RotR d d' (m - i) m (m + j) := by
  refine ⟨h2.1.trans h1.1, fun t => ?_⟩
  rw [h2.2 t]
  split
  · rw [h1.2]
    (repeat' split) <;> first | (exfalso; omega) | rfl | (congr 1; omega)
  · split
    · rw [h1.2]
      (repeat' split) <;> first | (exfalso; omega) | rfl | (congr 1; omega)
    · rw [h1.2]
      (repeat' split) <;> first | (exfalso; omega) | rfl | (congr 1; omega)
theorem rot_eq {d d1 : Array α} {m i : Nat} (hi : i ≤ m) (h1 : SwapR d d1 (m - i) m i) : RotR d d1 (m - i) m (m + i) := by
  refine ⟨h1.1, fun t => ?_⟩
  rw [h1.2]
  (repeat' split) <;> first | (exfalso; omega) | rfl | (congr 1; omega)

set_option maxHeartbeats 4000000 in
set_option maxRecDepth 1000000 in
theorem rotate_any {P : Program} {k : Nat} (L : SL P k) (enc : α → List Value) (g : Nat) (cb : Array Value) (blk off cap sz a m b : Nat) (d0 d : Array α) (w0 w : World)
    (R : RowK enc k w0 blk off d0) (hs : d0.size = sz) (hd : d.size = sz) (S : SWK enc k w0 blk off d w) (ham : a < m) (hmb : m < b) (hb : b ≤ sz) (hsz : sz < 4611686018427387904) :
    Calls P 183 #[.slice (some ⟨blk, off, none⟩) sz cap, .int .i64 a, .int .i64 m, .int .i64 b, .func (.func g) #[] cb] w fun e w' => e = .returned (.tuple #[]) ∧ ∃ d', RotR d d' a m b ∧ SWK enc k w0 blk off d' w' := by
  have hc := fun (sa sb sn : Nat) (dk : Array α) (wr : World) => swapRange_z L enc g cb blk off cap sz sa sb sn d0 dk w0 wr R hs
  obtain ⟨mixed, FS, FG, _, _, aE, zE, t0, a0, z0, v0, ti, ai, zi, vi, tb, ab, zb, vb, ts, al, zs, vs, tf, af, zf, vf, tu, au, zu, vu⟩ := L
  have es : ∀ args w, (callFunc 189 args).run P w = .ok (.enter 189 args) w := enters_of FS (by kernel_rfl) rfl
  have HC : Aside _ := hc
  have S0 : Aside (SWK enc k w0 blk off d w) := S
  clear S hc FS
  go_enter FG, Try.ntmps183
  go_wp2
  go_loopg [10, 11] (m - a + (b - m)) (fun kx s10 s11 wr => ∃ (i j : Nat) (dk : Array α), s10 = .int .i64 i ∧ s11 = .int .i64 j ∧ 0 < i ∧ 0 < j ∧ i ≤ m ∧ m + j ≤ sz ∧ i + j ≤ kx ∧ dk.size = sz ∧ Aside (SWK enc k w0 blk off dk wr) ∧ Hid (∀ d', RotR dk d' (m - i) m (m + j) → RotR d d' a m b))
  case atStart =>
    exact ⟨m - a, b - m, d, by go_num, by go_num, by omega, by omega, by omega, by omega, by omega, hd, S0, fun d' h => by rwa [show m - (m - a) = a by omega, show m + (b - m) = b by omega] at h⟩
  case round =>
    clear S0
    obtain ⟨i, j, dk, rfl, rfl, hi, hj, him, hjm, hkx, hds, S1, HE⟩ := hrel
    rcases Nat.lt_trichotomy i j with hlt | heq | hgt
    · have h1 : ¬ (i : Int) = (j : Int) := by omega
      have h2 : ¬ (j : Int) < (i : Int) := by omega
      have hcall := HC.out (m - i) (m + j - i) i dk wr hds S1.out (by omega) (by omega) hsz ((m : Int) - i) ((m : Int) + j - i) i (by omega) (by omega) rfl
      clear S1
      go_wp2_with (go_at_fn 189; refine hcall.mono ?_; rintro e w1 ⟨rfl, d1, H1, S3⟩)
      go_roundg (i + (j - i))
      case measure => omega
      case rel => exact ⟨i, j - i, d1, rfl, by go_num, hi, by omega, him, by omega, by omega, H1.1.trans hds, S3, fun d' h => HE.out d' (rot_lt him hlt H1 h)⟩
    · subst heq
      have hcall := HC.out (m - i) m i dk wr hds S1.out (by omega) (by omega) hsz ((m : Int) - i) m i (by omega) rfl rfl
      clear S1
      go_wp2_with (go_at_fn 189; refine hcall.mono ?_; rintro e w1 ⟨rfl, d1, H1, S3⟩)
      go_end0
      exact ⟨rfl, d1, HE.out d1 (rot_eq him H1), S3⟩
    · have h1 : ¬ (i : Int) = (j : Int) := by omega
      have h2 : (j : Int) < (i : Int) := by omega
      have hcall := HC.out (m - i) m j dk wr hds S1.out (by omega) (by omega) hsz ((m : Int) - i) m j (by omega) rfl rfl
      clear S1
      go_wp2_with (go_at_fn 189; refine hcall.mono ?_; rintro e w1 ⟨rfl, d1, H1, S3⟩)
      go_roundg (i - j + j)
      case measure => omega
      case rel => exact ⟨i - j, j, d1, by go_num, rfl, by omega, hj, by omega, hjm, by omega, H1.1.trans hds, S3, fun d' h => HE.out d' (rot_gt him hgt H1 h)⟩
end Go.Proofs.Ytdoemgccmjddcaa.So
