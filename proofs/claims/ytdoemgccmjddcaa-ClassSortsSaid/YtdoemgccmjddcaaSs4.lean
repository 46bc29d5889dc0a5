/- slices.SortStableFunc's family at classes: symMerge, a second run of one element. -/
import Derived.Test.YtdoemgccmjddcaaSs3
namespace Go.Proofs.Ytdoemgccmjddcaa.So
open Go.Shelf Go.RowKit Go.Lib Go.Sort
variable {α : Type} [Inhabited α] {key : α → Int}

set_option maxHeartbeats 8000000 in
set_option maxRecDepth 1000000 in
theorem sym_last {P : Program} {k : Nat} (L : SL P k) (enc : α → List Value) (cf : α → α → Int) (hcf : ∀ x y, cf x y < 0 ↔ key x < key y) (g : Nat) (cb : Array Value) (blk off cap sz a m b : Nat) (hm : b = m + 1) (d0 d : Array α) (w0 w : World)
    (eg : ∀ args w, (callFunc g args).run P w = .ok (.enter g args) w) (hcmp : CmpLays P g cb enc k cf blk off sz w0)
    (R : RowK enc k w0 blk off d0) (hs : d0.size = sz) (hd : d.size = sz) (S : SWK enc k w0 blk off d w) (ham : a + 1 < m) (hb : b ≤ sz) (hsz : sz < 4611686018427387904) (hA : Srt key (sg d a m)) :
    Calls P 171 #[.slice (some ⟨blk, off, none⟩) sz cap, .int .i64 a, .int .i64 m, .int .i64 b, .func (.func g) #[] cb] w fun e w' => e = .returned (.tuple #[]) ∧ ∃ d', MerR key d d' a b ∧ SWK enc k w0 blk off d' w' := by
  obtain ⟨mixed, FS, FR, FG, _, aE, zE, t0, a0, z0, v0, ti, ai, zi, vi, tb, ab, zb, vb, ts, al, zs, vs, tf, af, zf, vf, tu, au, zu, vu⟩ := L
  have S0 : Aside (SWK enc k w0 blk off d w) := S
  have HC : Aside _ := hcmp
  have HB : Hid _ := hA
  have HCF : Aside _ := hcf
  clear S FS FR hcmp hA hcf
  have hbp : (((m : Int) - (a : Int)) == 1) = false := by simp; omega
  have hbq : (((b : Int) - (m : Int)) == 1) = true := by simp; omega
  have hmb : m < b := by omega
  have HM : Hid (b = m + 1) := hm
  clear hm
  go_enter FG, Try.ntmps171
  go_wp2
  go_loopg [14, 15] (m - a) (fun kx s10 s11 wr => ∃ (i j : Nat), s10 = .int .i64 i ∧ s11 = .int .i64 j ∧ a ≤ i ∧ i ≤ j ∧ j ≤ m ∧ j - i ≤ kx ∧ Aside (SWK enc k w0 blk off d wr) ∧ Hid (∀ t, a ≤ t → t < i → key d[t]! ≤ key d[m]!) ∧ Hid (∀ t, j ≤ t → t < m → key d[m]! < key d[t]!))
  case atStart => exact ⟨a, m, rfl, rfl, by omega, by omega, by omega, by omega, S0, fun t h1 h2 => by omega, fun t h1 h2 => by omega⟩
  case round =>
    clear S0
    obtain ⟨i, j, rfl, rfl, hai, hij, hjb, hkx, S1, HL, HR⟩ := hrel
    by_cases hlt : i < j
    · have hltz : (i : Int) < (j : Int) := by omega
      go_wp2_with fail
      obtain ⟨h, hh, hih, hhj⟩ : ∃ h : Nat, ((i : Int) + (j : Int)) / 2 = (h : Int) ∧ i ≤ h ∧ h < j := ⟨(i + j) / 2, by omega, by omega, by omega⟩
      rw [hh]
      have ea24 : ((m : Int)).toNat = m := by omega
      have pa24 : (0 : Int) ≤ (m : Int) := by omega
      have ba24 : (m : Int) < (sz : Int) := by omega
      have ec24 : ((h : Int)).toNat = h := by omega
      have pc24 : (0 : Int) ≤ (h : Int) := by omega
      have bc24 : (h : Int) < (sz : Int) := by omega
      obtain ⟨x24, hx24⟩ : ∃ x, x = d[m]! := ⟨_, rfl⟩
      obtain ⟨y24, hy24⟩ : ∃ x, x = d[h]! := ⟨_, rfl⟩
      have l24a := S1.out.ld R (by omega) P m (by omega)
      have l24b := S1.out.ld R (by omega) P h (by omega)
      rw [← hx24] at l24a
      rw [← hy24] at l24b
      have hc24 := S1.out.cmp HC.out (by omega) x24 y24
      have HX : Hid (x24 = d[m]! ∧ y24 = d[h]!) := ⟨hx24, hy24⟩
      clear hx24 hy24
      by_cases hv24 : cf x24 y24 < 0
      · have hd24 : decide (cf x24 y24 < 0) = true := decide_eq_true hv24
        go_wp2_with fail
        go_quiet_grown (first | (go_at_fn g; refine Calls.grown_of (hc24 _ _)))
        have S2 : Aside (SWK enc k w0 blk off d (grow (wr.drewN nq) osq)) := S1.out.grown nq osq
        clear l24a l24b hc24 S1
        generalize grow (wr.drewN nq) osq = w2 at S2 ⊢
        clear nq osq
        go_wp2
        go_roundg (h - i)
        case measure => omega
        case rel =>
          refine ⟨i, h, rfl, rfl, hai, hih, by omega, by omega, S2, HL, fun t h1 h2 => ?_⟩
          obtain ⟨e1, e2⟩ := HX.out
          have hk := (HCF.out _ _).1 hv24
          rw [e1, e2] at hk
          exact Int.lt_of_lt_of_le hk (srt_le HB.out (show a ≤ h by omega) h1 h2)
      · have hd24 : decide (cf x24 y24 < 0) = false := decide_eq_false hv24
        go_wp2_with fail
        go_quiet_grown (first | (go_at_fn g; refine Calls.grown_of (hc24 _ _)))
        have S2 : Aside (SWK enc k w0 blk off d (grow (wr.drewN nq) osq)) := S1.out.grown nq osq
        clear l24a l24b hc24 S1
        generalize grow (wr.drewN nq) osq = w2 at S2 ⊢
        clear nq osq
        go_wp2
        go_roundg (j - (h + 1))
        case measure => omega
        case rel =>
          refine ⟨h + 1, j, by go_num, rfl, by omega, by omega, hjb, by omega, S2, fun t h1 h2 => ?_, HR⟩
          obtain ⟨e1, e2⟩ := HX.out
          have hk : ¬ key x24 < key y24 := fun hk => by have := (HCF.out x24 y24).2 hk; omega
          rw [e1, e2] at hk
          have hk' : key d[h]! ≤ key d[m]! := by omega
          exact Int.le_trans (srt_le HB.out h1 (show t ≤ h by omega) (by omega)) hk'
    · have hltz : ¬ (i : Int) < (j : Int) := by omega
      obtain rfl : i = j := by omega
      go_wp2
      go_loopg [17] (m - i) (fun kx s13 wr2 => ∃ (t : Nat) (dk : Array α), s13 = .int .i64 t ∧ i ≤ t ∧ t ≤ m ∧ t - i ≤ kx ∧ dk.size = sz ∧ Aside (SWK enc k w0 blk off dk wr2) ∧ Hid (RotR d dk t m b))
      case atStart => exact ⟨m, d, rfl, by omega, by omega, by omega, hd, S1, RotR.nothing d m m b (.inl rfl)⟩
      case round =>
        clear S1
        obtain ⟨t, dk, rfl, hat, hti, hkt, hds, S1, HE⟩ := hrel
        by_cases hlt2 : i < t
        · obtain ⟨t, rfl⟩ : ∃ u, t = u + 1 := ⟨t - 1, by omega⟩
          have hltz2 : (i : Int) < ((t + 1 : Nat) : Int) := by omega
          have hltz3 : (i : Int) < (t : Int) + 1 := by omega
          go_wp2_with fail
          have ea44 : ((t : Int) + 1).toNat = t + 1 := by omega
          have pa44 : (0 : Int) ≤ (t : Int) + 1 := by omega
          have ba44 : (t : Int) + 1 < (sz : Int) := by omega
          have ra44 : IntKind.i64.wrap ((t : Int) + 1) = (t : Int) + 1 := by rw [IntKind.wrap_i64]; omega
          have ec44 : ((t : Int)).toNat = t := by omega
          have pc44 : (0 : Int) ≤ (t : Int) := by omega
          have bc44 : (t : Int) < (sz : Int) := by omega
          have rc44 : IntKind.i64.wrap (t : Int) = (t : Int) := by rw [IntKind.wrap_i64]; omega
          have S2 : Aside (SWK enc k w0 blk off (swp dk (t + 1) t) ((wr.drew.setCells blk (off + (t + 1) * k) (enc dk[t]!)).setCells blk (off + t * k) (enc dk[t + 1]!))) := S1.out.swapped R (t + 1) t (by omega) (by omega)
          have l44a := S1.out.ld1 R (by omega) P (t + 1) (by omega)
          have l44b := S1.out.ld1 R (by omega) P t (by omega)
          have s44a := S1.out.st1 R (by omega) P (t + 1) (by omega) dk[t]!
          have s44b := S1.out.st2 R (by omega) P (t + 1) t (by omega) (by omega) dk[t]! dk[t + 1]!
          have n44a : (enc dk[t + 1]!).length = k := R.hk _
          have n44b : (enc dk[t]!).length = k := R.hk _
          generalize enc dk[t + 1]! = cI44 at S2 l44a s44b n44a
          generalize enc dk[t]! = cJ44 at S2 l44b s44a s44b n44b
          clear S1
          go_wp2_with fail
          go_big_region_o
          clear l44a l44b s44a s44b
          generalize (wr.drew.setCells blk (off + (t + 1) * k) cJ44).setCells blk (off + t * k) cI44 = w2 at S2 ⊢
          go_wp2
          go_roundg (t - i)
          case measure => omega
          case rel => exact ⟨t, swp dk (t + 1) t, by first | rfl | go_num | (congr 1; omega), by omega, by omega, by omega, by rw [size_swp]; exact hds, S2, by have := HE.out; have hm := HM.out; subst hm; exact rot_back this (by omega) (by omega)⟩
        · have hltz2 : ¬ (i : Int) < (t : Int) := by omega
          go_wp2
          (try simp only [Exit.inBlock, Exit.then]); refine bodyPost_ret (results_none rfl _ _ _) rfl ?_
          obtain rfl : t = i := by omega
          have hr := HE.out
          have hb' := HB.out
          have hl' := HL.out
          have hr' := HR.out
          have hm := HM.out
          subst hm
          exact ⟨rfl, dk, mer_last hr hai hti hb' hl' hr', S1.out⟩
end Go.Proofs.Ytdoemgccmjddcaa.So
