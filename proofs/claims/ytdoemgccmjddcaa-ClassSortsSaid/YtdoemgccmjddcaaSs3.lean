/- slices.SortStableFunc's family at classes: symMerge, a first run of one element. -/
import Derived.Test.YtdoemgccmjddcaaSo3
namespace Go.Proofs.Ytdoemgccmjddcaa.So
open Go.Shelf Go.RowKit Go.Lib Go.Sort
variable {α : Type} [Inhabited α] {key : α → Int}

theorem half_z (n : Nat) (h : n < 9223372036854775808) : IntKind.i64.wrap ((n : Int) / 2) = ((n / 2 : Nat) : Int) := by rw [IntKind.wrap_i64]; omega

/-- behind one step of a rotation by one to the right -/
theorem rot_on {d dk : Array α} {a t : Nat} (h : RotR d dk a (a + 1) (t + 1)) (hat : a ≤ t) (ht : t + 1 < d.size) : RotR d (swp dk t (t + 1)) a (a + 1) (t + 2) := by
  refine ⟨(swp_size _ _ _).trans h.1, fun j => ?_⟩
  rw [swp_get dk (by rw [h.1]; omega) (by rw [h.1]; exact ht), h.2, h.2, h.2]
  (repeat' split) <;> first | (exfalso; omega) | rfl | (congr 1; omega)
theorem rot_back {d dk : Array α} {t m : Nat} (h : RotR d dk (t + 1) m (m + 1)) (ht : t + 1 ≤ m) (hm : m < d.size) : RotR d (swp dk (t + 1) t) t m (m + 1) := by
  refine ⟨(swp_size _ _ _).trans h.1, fun j => ?_⟩
  rw [swp_get dk (by rw [h.1]; omega) (by rw [h.1]; omega), h.2, h.2, h.2]
  (repeat' split) <;> first | (exfalso; omega) | rfl | (congr 1; omega)

set_option maxHeartbeats 8000000 in
set_option maxRecDepth 1000000 in
theorem sym_first {P : Program} {k : Nat} (L : SL P k) (enc : α → List Value) (cf : α → α → Int) (hcf : ∀ x y, cf x y < 0 ↔ key x < key y) (g : Nat) (cb : Array Value) (blk off cap sz a m b : Nat) (hm : m = a + 1) (d0 d : Array α) (w0 w : World)
    (eg : ∀ args w, (callFunc g args).run P w = .ok (.enter g args) w) (hcmp : CmpLays P g cb enc k cf blk off sz w0)
    (R : RowK enc k w0 blk off d0) (hs : d0.size = sz) (hd : d.size = sz) (S : SWK enc k w0 blk off d w) (hmb : m < b) (hb : b ≤ sz) (hsz : sz < 4611686018427387904) (hB : Srt key (sg d m b)) :
    Calls P 171 #[.slice (some ⟨blk, off, none⟩) sz cap, .int .i64 a, .int .i64 m, .int .i64 b, .func (.func g) #[] cb] w fun e w' => e = .returned (.tuple #[]) ∧ ∃ d', MerR key d d' a b ∧ SWK enc k w0 blk off d' w' := by
  obtain ⟨mixed, FS, FR, FG, _, aE, zE, t0, a0, z0, v0, ti, ai, zi, vi, tb, ab, zb, vb, ts, al, zs, vs, tf, af, zf, vf, tu, au, zu, vu⟩ := L
  have S0 : Aside (SWK enc k w0 blk off d w) := S
  have HC : Aside _ := hcmp
  have HB : Hid _ := hB
  have HCF : Aside _ := hcf
  clear S FS FR hcmp hB hcf
  have hbq : (((m : Int) - (a : Int)) == 1) = true := by simp; omega
  have ham : a < m := by omega
  have HM : Hid (m = a + 1) := hm
  clear hm
  go_enter FG, Try.ntmps171
  go_wp2
  go_loopg [10, 11] (b - m) (fun kx s10 s11 wr => ∃ (i j : Nat), s10 = .int .i64 i ∧ s11 = .int .i64 j ∧ m ≤ i ∧ i ≤ j ∧ j ≤ b ∧ j - i ≤ kx ∧ Aside (SWK enc k w0 blk off d wr) ∧ Hid (∀ t, m ≤ t → t < i → key d[t]! < key d[a]!) ∧ Hid (∀ t, j ≤ t → t < b → key d[a]! ≤ key d[t]!))
  case atStart => exact ⟨m, b, rfl, rfl, by omega, by omega, by omega, by omega, S0, fun t h1 h2 => by omega, fun t h1 h2 => by omega⟩
  case round =>
    clear S0
    obtain ⟨i, j, rfl, rfl, hai, hij, hjb, hkx, S1, HL, HR⟩ := hrel
    by_cases hlt : i < j
    · have hltz : (i : Int) < (j : Int) := by omega
      go_wp2_with fail
      obtain ⟨h, hh, hih, hhj⟩ : ∃ h : Nat, ((i : Int) + (j : Int)) / 2 = (h : Int) ∧ i ≤ h ∧ h < j := ⟨(i + j) / 2, by omega, by omega, by omega⟩
      rw [hh]
      have ea24 : ((h : Int)).toNat = h := by omega
      have pa24 : (0 : Int) ≤ (h : Int) := by omega
      have ba24 : (h : Int) < (sz : Int) := by omega
      have ec24 : ((a : Int)).toNat = a := by omega
      have pc24 : (0 : Int) ≤ (a : Int) := by omega
      have bc24 : (a : Int) < (sz : Int) := by omega
      obtain ⟨x24, hx24⟩ : ∃ x, x = d[h]! := ⟨_, rfl⟩
      obtain ⟨y24, hy24⟩ : ∃ x, x = d[a]! := ⟨_, rfl⟩
      have l24a := S1.out.ld R (by omega) P h (by omega)
      have l24b := S1.out.ld R (by omega) P a (by omega)
      rw [← hx24] at l24a
      rw [← hy24] at l24b
      have hc24 := S1.out.cmp HC.out (by omega) x24 y24
      have HX : Hid (x24 = d[h]! ∧ y24 = d[a]!) := ⟨hx24, hy24⟩
      clear hx24 hy24
      by_cases hv24 : cf x24 y24 < 0
      · have hd24 : decide (cf x24 y24 < 0) = true := decide_eq_true hv24
        go_wp2_with fail
        go_quiet_grown (first | (go_at_fn g; refine Calls.grown_of (hc24 _ _)))
        have S2 : Aside (SWK enc k w0 blk off d (grow (wr.drewN nq) osq)) := S1.out.grown nq osq
        clear l24a l24b hc24 S1
        generalize grow (wr.drewN nq) osq = w2 at S2 ⊢
        clear nq osq
        go_wp2
        go_roundg (j - (h + 1))
        case measure => omega
        case rel =>
          refine ⟨h + 1, j, by go_num, rfl, by omega, by omega, hjb, by omega, S2, fun t h1 h2 => ?_, HR⟩
          obtain ⟨e1, e2⟩ := HX.out
          have hk := (HCF.out _ _).1 hv24
          rw [e1, e2] at hk
          exact Int.lt_of_le_of_lt (srt_le HB.out h1 (show t ≤ h by omega) (by omega)) hk
      · have hd24 : decide (cf x24 y24 < 0) = false := decide_eq_false hv24
        go_wp2_with fail
        go_quiet_grown (first | (go_at_fn g; refine Calls.grown_of (hc24 _ _)))
        have S2 : Aside (SWK enc k w0 blk off d (grow (wr.drewN nq) osq)) := S1.out.grown nq osq
        clear l24a l24b hc24 S1
        generalize grow (wr.drewN nq) osq = w2 at S2 ⊢
        clear nq osq
        go_wp2
        go_roundg (h - i)
        case measure => omega
        case rel =>
          refine ⟨i, h, rfl, rfl, hai, hih, by omega, by omega, S2, HL, fun t h1 h2 => ?_⟩
          obtain ⟨e1, e2⟩ := HX.out
          have hk : ¬ key x24 < key y24 := fun hk => by have := (HCF.out x24 y24).2 hk; omega
          rw [e1, e2] at hk
          have hk' : key d[a]! ≤ key d[h]! := by omega
          exact Int.le_trans hk' (srt_le HB.out (show m ≤ h by omega) h1 h2)
    · have hltz : ¬ (i : Int) < (j : Int) := by omega
      obtain rfl : i = j := by omega
      go_wp2
      go_loopg [13] (i - 1 - a) (fun kx s13 wr2 => ∃ (t : Nat) (dk : Array α), s13 = .int .i64 t ∧ a ≤ t ∧ t ≤ i - 1 ∧ i - 1 - t ≤ kx ∧ dk.size = sz ∧ Aside (SWK enc k w0 blk off dk wr2) ∧ Hid (RotR d dk a m (t + 1)))
      case atStart => exact ⟨a, d, rfl, by omega, by omega, by omega, hd, S1, RotR.nothing d a m (a + 1) (.inr HM.out)⟩
      case round =>
        clear S1
        obtain ⟨t, dk, rfl, hat, hti, hkt, hds, S1, HE⟩ := hrel
        by_cases hlt2 : t < i - 1
        · have hltz2 : (t : Int) < (i : Int) - 1 := by omega
          go_wp2_with fail
          have ea44 : ((t : Int)).toNat = t := by omega
          have pa44 : (0 : Int) ≤ (t : Int) := by omega
          have ba44 : (t : Int) < (sz : Int) := by omega
          have ra44 : IntKind.i64.wrap ((t : Int)) = (t : Int) := by rw [IntKind.wrap_i64]; omega
          have ec44 : ((t : Int) + 1).toNat = t + 1 := by omega
          have pc44 : (0 : Int) ≤ (t : Int) + 1 := by omega
          have bc44 : (t : Int) + 1 < (sz : Int) := by omega
          have rc44 : IntKind.i64.wrap ((t : Int) + 1) = (t : Int) + 1 := by rw [IntKind.wrap_i64]; omega
          have S2 : Aside (SWK enc k w0 blk off (swp dk t (t + 1)) ((wr.drew.setCells blk (off + t * k) (enc dk[t + 1]!)).setCells blk (off + (t + 1) * k) (enc dk[t]!))) := S1.out.swapped R t (t + 1) (by omega) (by omega)
          have l44a := S1.out.ld1 R (by omega) P t (by omega)
          have l44b := S1.out.ld1 R (by omega) P (t + 1) (by omega)
          have s44a := S1.out.st1 R (by omega) P t (by omega) dk[t + 1]!
          have s44b := S1.out.st2 R (by omega) P t (t + 1) (by omega) (by omega) dk[t + 1]! dk[t]!
          have n44a : (enc dk[t]!).length = k := R.hk _
          have n44b : (enc dk[t + 1]!).length = k := R.hk _
          generalize enc dk[t]! = cI44 at S2 l44a s44b n44a
          generalize enc dk[t + 1]! = cJ44 at S2 l44b s44a s44b n44b
          clear S1
          go_wp2_with fail
          go_big_region_o
          clear l44a l44b s44a s44b
          generalize (wr.drew.setCells blk (off + t * k) cJ44).setCells blk (off + (t + 1) * k) cI44 = w2 at S2 ⊢
          go_wp2
          go_roundg (i - 1 - (t + 1))
          case measure => omega
          case rel => exact ⟨t + 1, swp dk t (t + 1), by go_num, by omega, by omega, by omega, by rw [size_swp]; exact hds, S2, by have := HE.out; have hm := HM.out; subst hm; exact rot_on this hat (by omega)⟩
        · have hltz2 : ¬ (t : Int) < (i : Int) - 1 := by omega
          go_wp2
          (try simp only [Exit.inBlock, Exit.then]); refine bodyPost_ret (results_none rfl _ _ _) rfl ?_
          have ht : t + 1 = i := by omega
          have hr : RotR d dk a m i := by rw [← ht]; exact HE.out
          have hb' := HB.out
          have hl' := HL.out
          have hr' := HR.out
          have hm := HM.out
          subst hm
          exact ⟨rfl, dk, mer_first hr hai hjb hb' hl' hr', S1.out⟩
end Go.Proofs.Ytdoemgccmjddcaa.So
