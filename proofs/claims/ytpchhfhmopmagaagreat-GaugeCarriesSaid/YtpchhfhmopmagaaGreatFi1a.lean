/- The sorting family of slices at filters: the core (printed by wip/gen/fi1a.py out of the one at classes). -/
import Derived.Test.YtpchhfhmopmagaaGreatFi1
set_option linter.unusedVariables false
set_option linter.unusedSimpArgs false
namespace Go.Proofs.YtpchhfhmopmagaaGreat.Fi
open Go.Shelf Go.RowKit Go.Lib Go.Sort Go.Proofs.YtpchhfhmopmagaaGreat.So

structure SL (P : Program) (k : Nat) : Prop where
  mixed : P.follows .mixedOrders = true
  swapR : P.funcs[282]? = some Tryz.f282
  rot : P.funcs[276]? = some Tryz.f276
  sym : P.funcs[264]? = some Tryz.f264
  stab : P.funcs[237]? = some Tryz.f237
  aE : ∀ w, (isAgg 98).run P w = .ok true w
  zE : ∀ w, (Go.sizeOf 98).run P w = .ok k w
  t0 : P.underlying 0 = some (TypeDesc.tuple #[])
  a0 : ∀ w, (isAgg 0).run P w = .ok false w
  z0 : ∀ w, (Go.sizeOf 0).run P w = .ok 1 w
  v0 : ∀ w, (zeroValue 0).run P w = .ok (Value.tuple #[]) w
  ti : P.underlying 3 = some (TypeDesc.int IntKind.i64)
  ai : ∀ w, (isAgg 3).run P w = .ok false w
  zi : ∀ w, (Go.sizeOf 3).run P w = .ok 1 w
  vi : ∀ w, (zeroValue 3).run P w = .ok (Value.int IntKind.i64 0) w
  tb : P.underlying 4 = some (TypeDesc.bool)
  ab : ∀ w, (isAgg 4).run P w = .ok false w
  zb : ∀ w, (Go.sizeOf 4).run P w = .ok 1 w
  vb : ∀ w, (zeroValue 4).run P w = .ok (Value.bool false) w
  ts : P.underlying 23 = some (TypeDesc.slice 98)
  al : ∀ w, (isAgg 23).run P w = .ok false w
  zs : ∀ w, (Go.sizeOf 23).run P w = .ok 1 w
  vs : ∀ w, (zeroValue 23).run P w = .ok (Value.slice none 0 0) w
  tf : P.underlying 180 = some (TypeDesc.func #[98, 98] #[3] false)
  af : ∀ w, (isAgg 180).run P w = .ok false w
  zf : ∀ w, (Go.sizeOf 180).run P w = .ok 1 w
  vf : ∀ w, (zeroValue 180).run P w = .ok (Value.nilFunc) w
  tu : P.underlying 290 = some (TypeDesc.int IntKind.u64)
  au : ∀ w, (isAgg 290).run P w = .ok false w
  zu : ∀ w, (Go.sizeOf 290).run P w = .ok 1 w
  vu : ∀ w, (zeroValue 290).run P w = .ok (Value.int IntKind.u64 0) w
theorem sl : SL Tryz.prog 15 where
  mixed := by kernel_rfl
  swapR := Tryz.func282
  rot := Tryz.func276
  sym := Tryz.func264
  stab := Tryz.func237
  aE := Tryz.isAgg98
  zE := Tryz.sizeOf98
  t0 := Tryz.underlying0
  a0 := Tryz.isAgg0
  z0 := Tryz.sizeOf0
  v0 := Tryz.zeroValue0
  ti := Tryz.underlying3
  ai := Tryz.isAgg3
  zi := Tryz.sizeOf3
  vi := Tryz.zeroValue3
  tb := Tryz.underlying4
  ab := Tryz.isAgg4
  zb := Tryz.sizeOf4
  vb := Tryz.zeroValue4
  ts := Tryz.underlying23
  al := Tryz.isAgg23
  zs := Tryz.sizeOf23
  vs := Tryz.zeroValue23
  tf := Tryz.underlying180
  af := Tryz.isAgg180
  zf := Tryz.sizeOf180
  vf := Tryz.zeroValue180
  tu := Tryz.underlying290
  au := Tryz.isAgg290
  zu := Tryz.sizeOf290
  vu := Tryz.zeroValue290
variable {α : Type} [Inhabited α] {key : α → Int}
set_option maxHeartbeats 4000000 in
set_option maxRecDepth 1000000 in
theorem swapRange_any {P : Program} {k : Nat} (L : SL P k) (enc : α → List Value) (g : Nat) (cb : Array Value) (blk off cap a b n : Nat) (d0 d : Array α) (w0 w : World)
    (R : RowK enc k w0 blk off d0) (hs : d0.size = d.size) (S : SWK enc k w0 blk off d w) (hab : a + n ≤ b) (hb : b + n ≤ d.size) (hsz : d.size < 4611686018427387904) :
    Calls P 282 #[.slice (some ⟨blk, off, none⟩) d.size cap, .int .i64 a, .int .i64 b, .int .i64 n, .func (.func g) #[] cb] w fun e w' => e = .returned (.tuple #[]) ∧ ∃ d', SwapR d d' a b n ∧ SWK enc k w0 blk off d' w' := by
  obtain ⟨mixed, FG, _, _, _, aE, zE, t0, a0, z0, v0, ti, ai, zi, vi, tb, ab, zb, vb, ts, al, zs, vs, tf, af, zf, vf, tu, au, zu, vu⟩ := L
  have S0 : Aside (SWK enc k w0 blk off d w) := S
  clear S
  go_enter FG, Tryz.ntmps282
  go_wp2
  go_loopg [10] n (fun kx s10 wr => ∃ (i : Nat) (dk : Array α), s10 = .int .i64 i ∧ i ≤ n ∧ n - i ≤ kx ∧ dk.size = d.size ∧ Aside (SWK enc k w0 blk off dk wr) ∧ Hid (SwapR d dk a b i))
  case atStart => exact ⟨0, d, rfl, by omega, by omega, rfl, S0, SwapR.zero d a b⟩
  case round =>
    clear S0
    obtain ⟨i, dk, rfl, hi, hkx, hds, S1, HE⟩ := hrel
    by_cases hlt : i < n
    · have hltz : (i : Int) < (n : Int) := by omega
      go_wp2_with fail
      have ea44 : ((a : Int) + (i : Int)).toNat = a + i := by omega
      have pa44 : (0 : Int) ≤ (a : Int) + (i : Int) := by omega
      have ba44 : (a : Int) + (i : Int) < (d.size : Int) := by omega
      have ra44 : IntKind.i64.wrap ((a : Int) + (i : Int)) = (a : Int) + (i : Int) := by rw [IntKind.wrap_i64]; omega
      have ec44 : ((b : Int) + (i : Int)).toNat = b + i := by omega
      have pc44 : (0 : Int) ≤ (b : Int) + (i : Int) := by omega
      have bc44 : (b : Int) + (i : Int) < (d.size : Int) := by omega
      have rc44 : IntKind.i64.wrap ((b : Int) + (i : Int)) = (b : Int) + (i : Int) := by rw [IntKind.wrap_i64]; omega
      have S2 : Aside (SWK enc k w0 blk off (swp dk (a + i) (b + i)) ((wr.drew.setCells blk (off + (a + i) * k) (enc dk[b + i]!)).setCells blk (off + (b + i) * k) (enc dk[a + i]!))) := S1.out.swapped R (a + i) (b + i) (by omega) (by omega)
      have l44a := S1.out.ld1 R (by omega) P (a + i) (by omega)
      have l44b := S1.out.ld1 R (by omega) P (b + i) (by omega)
      have s44a := S1.out.st1 R (by omega) P (a + i) (by omega) dk[b + i]!
      have s44b := S1.out.st2 R (by omega) P (a + i) (b + i) (by omega) (by omega) dk[b + i]! dk[a + i]!
      have n44a : (enc dk[a + i]!).length = k := R.hk _
      have n44b : (enc dk[b + i]!).length = k := R.hk _
      generalize enc dk[a + i]! = cI44 at S2 l44a s44b n44a
      generalize enc dk[b + i]! = cJ44 at S2 l44b s44a s44b n44b
      clear S1
      go_wp2_with fail
      go_big_region_o
      clear l44a l44b s44a s44b
      generalize (wr.drew.setCells blk (off + (a + i) * k) cJ44).setCells blk (off + (b + i) * k) cI44 = w2 at S2 ⊢
      go_wp2
      go_roundg (n - (i + 1))
      case measure => omega
      case rel => exact ⟨i + 1, swp dk (a + i) (b + i), by go_num, by omega, by omega, by rw [size_swp]; exact hds, S2, HE.out.step (by omega) (by omega)⟩
    · have hltz : ¬ (i : Int) < (n : Int) := by omega
      go_wp2
      go_end0
      obtain rfl : i = n := by omega
      exact ⟨rfl, dk, HE.out, S1.out⟩
theorem swapRange_z {P : Program} {k : Nat} (L : SL P k) (enc : α → List Value) (g : Nat) (cb : Array Value) (blk off cap sz a b n : Nat) (d0 d : Array α) (w0 w : World)
    (R : RowK enc k w0 blk off d0) (hs : d0.size = sz) (hd : d.size = sz) (S : SWK enc k w0 blk off d w) (hab : a + n ≤ b) (hb : b + n ≤ sz) (hsz : sz < 4611686018427387904) (az bz nz : Int) (ea : az = a) (eb : bz = b) (en : nz = n) :
    Calls P 282 #[.slice (some ⟨blk, off, none⟩) sz cap, .int .i64 az, .int .i64 bz, .int .i64 nz, .func (.func g) #[] cb] w fun e w' => e = .returned (.tuple #[]) ∧ ∃ d', SwapR d d' a b n ∧ SWK enc k w0 blk off d' w' := by
  subst ea eb en hd
  exact swapRange_any L enc g cb blk off cap a b n d0 d w0 w R hs S hab hb hsz
set_option maxHeartbeats 4000000 in
set_option maxRecDepth 1000000 in
theorem rotate_any {P : Program} {k : Nat} (L : SL P k) (enc : α → List Value) (g : Nat) (cb : Array Value) (blk off cap sz a m b : Nat) (d0 d : Array α) (w0 w : World)
    (R : RowK enc k w0 blk off d0) (hs : d0.size = sz) (hd : d.size = sz) (S : SWK enc k w0 blk off d w) (ham : a < m) (hmb : m < b) (hb : b ≤ sz) (hsz : sz < 4611686018427387904) :
    Calls P 276 #[.slice (some ⟨blk, off, none⟩) sz cap, .int .i64 a, .int .i64 m, .int .i64 b, .func (.func g) #[] cb] w fun e w' => e = .returned (.tuple #[]) ∧ ∃ d', RotR d d' a m b ∧ SWK enc k w0 blk off d' w' := by
  have hc := fun (sa sb sn : Nat) (dk : Array α) (wr : World) => swapRange_z L enc g cb blk off cap sz sa sb sn d0 dk w0 wr R hs
  obtain ⟨mixed, FS, FG, _, _, aE, zE, t0, a0, z0, v0, ti, ai, zi, vi, tb, ab, zb, vb, ts, al, zs, vs, tf, af, zf, vf, tu, au, zu, vu⟩ := L
  have es : ∀ args w, (callFunc 282 args).run P w = .ok (.enter 282 args) w := enters_of FS (by kernel_rfl) rfl
  have HC : Aside _ := hc
  have S0 : Aside (SWK enc k w0 blk off d w) := S
  clear S hc FS
  go_enter FG, Tryz.ntmps276
  go_wp2
  go_loopg [10, 11] (m - a + (b - m)) (fun kx s10 s11 wr => ∃ (i j : Nat) (dk : Array α), s10 = .int .i64 i ∧ s11 = .int .i64 j ∧ 0 < i ∧ 0 < j ∧ i ≤ m ∧ m + j ≤ sz ∧ i + j ≤ kx ∧ dk.size = sz ∧ Aside (SWK enc k w0 blk off dk wr) ∧ Hid (∀ d', RotR dk d' (m - i) m (m + j) → RotR d d' a m b))
  case atStart =>
    exact ⟨m - a, b - m, d, by go_num, by go_num, by omega, by omega, by omega, by omega, by omega, hd, S0, fun d' h => by rwa [show m - (m - a) = a by omega, show m + (b - m) = b by omega] at h⟩
  case round =>
    clear S0
    obtain ⟨i, j, dk, rfl, rfl, hi, hj, him, hjm, hkx, hds, S1, HE⟩ := hrel
    rcases Nat.lt_trichotomy i j with hlt | heq | hgt
    · have h1 : ¬ (i : Int) = (j : Int) := by omega
      have h2 : ¬ (j : Int) < (i : Int) := by omega
      have hcall := HC.out (m - i) (m + j - i) i dk wr hds S1.out (by omega) (by omega) hsz ((m : Int) - i) ((m : Int) + j - i) i (by omega) (by omega) rfl
      clear S1
      go_wp2_with (go_at_fn 282; refine hcall.mono ?_; rintro e w1 ⟨rfl, d1, H1, S3⟩)
      go_roundg (i + (j - i))
      case measure => omega
      case rel => exact ⟨i, j - i, d1, rfl, by go_num, hi, by omega, him, by omega, by omega, H1.1.trans hds, S3, fun d' h => HE.out d' (rot_lt him hlt H1 h)⟩
    · subst heq
      have hcall := HC.out (m - i) m i dk wr hds S1.out (by omega) (by omega) hsz ((m : Int) - i) m i (by omega) rfl rfl
      clear S1
      go_wp2_with (go_at_fn 282; refine hcall.mono ?_; rintro e w1 ⟨rfl, d1, H1, S3⟩)
      go_end0
      exact ⟨rfl, d1, HE.out d1 (rot_eq him H1), S3⟩
    · have h1 : ¬ (i : Int) = (j : Int) := by omega
      have h2 : (j : Int) < (i : Int) := by omega
      have hcall := HC.out (m - i) m j dk wr hds S1.out (by omega) (by omega) hsz ((m : Int) - i) m j (by omega) rfl rfl
      clear S1
      go_wp2_with (go_at_fn 282; refine hcall.mono ?_; rintro e w1 ⟨rfl, d1, H1, S3⟩)
      go_roundg (i - j + j)
      case measure => omega
      case rel => exact ⟨i - j, j, d1, by go_num, rfl, by omega, hj, by omega, hjm, by omega, H1.1.trans hds, S3, fun d' h => HE.out d' (rot_gt him hgt H1 h)⟩
set_option maxHeartbeats 8000000 in
set_option maxRecDepth 1000000 in
theorem sym_first {P : Program} {k : Nat} (L : SL P k) (enc : α → List Value) (cf : α → α → Int) (hcf : ∀ x y, cf x y < 0 ↔ key x < key y) (g : Nat) (cb : Array Value) (blk off cap sz a m b : Nat) (hm : m = a + 1) (d0 d : Array α) (w0 w : World)
    (eg : ∀ args w, (callFunc g args).run P w = .ok (.enter g args) w) (hcmp : CmpLays P g cb enc k cf blk off sz w0)
    (R : RowK enc k w0 blk off d0) (hs : d0.size = sz) (hd : d.size = sz) (S : SWK enc k w0 blk off d w) (hmb : m < b) (hb : b ≤ sz) (hsz : sz < 4611686018427387904) (hB : Srt key (sg d m b)) :
    Calls P 264 #[.slice (some ⟨blk, off, none⟩) sz cap, .int .i64 a, .int .i64 m, .int .i64 b, .func (.func g) #[] cb] w fun e w' => e = .returned (.tuple #[]) ∧ ∃ d', MerR key d d' a b ∧ SWK enc k w0 blk off d' w' := by
  obtain ⟨mixed, FS, FR, FG, _, aE, zE, t0, a0, z0, v0, ti, ai, zi, vi, tb, ab, zb, vb, ts, al, zs, vs, tf, af, zf, vf, tu, au, zu, vu⟩ := L
  have S0 : Aside (SWK enc k w0 blk off d w) := S
  have HC : Aside _ := hcmp
  have HB : Hid _ := hB
  have HCF : Aside _ := hcf
  clear S FS FR hcmp hB hcf
  have hbq : (((m : Int) - (a : Int)) == 1) = true := by simp; omega
  have ham : a < m := by omega
  have HM : Hid (m = a + 1) := hm
  clear hm
  go_enter FG, Tryz.ntmps264
  go_wp2
  go_loopg [10, 11] (b - m) (fun kx s10 s11 wr => ∃ (i j : Nat), s10 = .int .i64 i ∧ s11 = .int .i64 j ∧ m ≤ i ∧ i ≤ j ∧ j ≤ b ∧ j - i ≤ kx ∧ Aside (SWK enc k w0 blk off d wr) ∧ Hid (∀ t, m ≤ t → t < i → key d[t]! < key d[a]!) ∧ Hid (∀ t, j ≤ t → t < b → key d[a]! ≤ key d[t]!))
  case atStart => exact ⟨m, b, rfl, rfl, by omega, by omega, by omega, by omega, S0, fun t h1 h2 => by omega, fun t h1 h2 => by omega⟩
  case round =>
    clear S0
    obtain ⟨i, j, rfl, rfl, hai, hij, hjb, hkx, S1, HL, HR⟩ := hrel
    by_cases hlt : i < j
    · have hltz : (i : Int) < (j : Int) := by omega
      go_wp2_with fail
      obtain ⟨h, hh, hih, hhj⟩ : ∃ h : Nat, ((i : Int) + (j : Int)) / 2 = (h : Int) ∧ i ≤ h ∧ h < j := ⟨(i + j) / 2, by omega, by omega, by omega⟩
      rw [hh]
      have ea24 : ((h : Int)).toNat = h := by omega
      have pa24 : (0 : Int) ≤ (h : Int) := by omega
      have ba24 : (h : Int) < (sz : Int) := by omega
      have ec24 : ((a : Int)).toNat = a := by omega
      have pc24 : (0 : Int) ≤ (a : Int) := by omega
      have bc24 : (a : Int) < (sz : Int) := by omega
      obtain ⟨x24, hx24⟩ : ∃ x, x = d[h]! := ⟨_, rfl⟩
      obtain ⟨y24, hy24⟩ : ∃ x, x = d[a]! := ⟨_, rfl⟩
      have l24a := S1.out.ld R (by omega) P h (by omega)
      have l24b := S1.out.ld R (by omega) P a (by omega)
      rw [← hx24] at l24a
      rw [← hy24] at l24b
      have hc24 := S1.out.cmp HC.out (by omega) x24 y24
      have HX : Hid (x24 = d[h]! ∧ y24 = d[a]!) := ⟨hx24, hy24⟩
      clear hx24 hy24
      by_cases hv24 : cf x24 y24 < 0
      · have hd24 : decide (cf x24 y24 < 0) = true := decide_eq_true hv24
        go_wp2_with fail
        go_quiet_grown (first | (go_at_fn g; refine Calls.grown_of (hc24 _ _)))
        have S2 : Aside (SWK enc k w0 blk off d (grow (wr.drewN nq) osq)) := S1.out.grown nq osq
        clear l24a l24b hc24 S1
        generalize grow (wr.drewN nq) osq = w2 at S2 ⊢
        clear nq osq
        go_wp2
        go_roundg (j - (h + 1))
        case measure => omega
        case rel =>
          refine ⟨h + 1, j, by go_num, rfl, by omega, by omega, hjb, by omega, S2, fun t h1 h2 => ?_, HR⟩
          obtain ⟨e1, e2⟩ := HX.out
          have hk := (HCF.out _ _).1 hv24
          rw [e1, e2] at hk
          exact Int.lt_of_le_of_lt (srt_le HB.out h1 (show t ≤ h by omega) (by omega)) hk
      · have hd24 : decide (cf x24 y24 < 0) = false := decide_eq_false hv24
        go_wp2_with fail
        go_quiet_grown (first | (go_at_fn g; refine Calls.grown_of (hc24 _ _)))
        have S2 : Aside (SWK enc k w0 blk off d (grow (wr.drewN nq) osq)) := S1.out.grown nq osq
        clear l24a l24b hc24 S1
        generalize grow (wr.drewN nq) osq = w2 at S2 ⊢
        clear nq osq
        go_wp2
        go_roundg (h - i)
        case measure => omega
        case rel =>
          refine ⟨i, h, rfl, rfl, hai, hih, by omega, by omega, S2, HL, fun t h1 h2 => ?_⟩
          obtain ⟨e1, e2⟩ := HX.out
          have hk : ¬ key x24 < key y24 := fun hk => by have := (HCF.out x24 y24).2 hk; omega
          rw [e1, e2] at hk
          have hk' : key d[a]! ≤ key d[h]! := by omega
          exact Int.le_trans hk' (srt_le HB.out (show m ≤ h by omega) h1 h2)
    · have hltz : ¬ (i : Int) < (j : Int) := by omega
      obtain rfl : i = j := by omega
      go_wp2
      go_loopg [13] (i - 1 - a) (fun kx s13 wr2 => ∃ (t : Nat) (dk : Array α), s13 = .int .i64 t ∧ a ≤ t ∧ t ≤ i - 1 ∧ i - 1 - t ≤ kx ∧ dk.size = sz ∧ Aside (SWK enc k w0 blk off dk wr2) ∧ Hid (RotR d dk a m (t + 1)))
      case atStart => exact ⟨a, d, rfl, by omega, by omega, by omega, hd, S1, RotR.nothing d a m (a + 1) (.inr HM.out)⟩
      case round =>
        clear S1
        obtain ⟨t, dk, rfl, hat, hti, hkt, hds, S1, HE⟩ := hrel
        by_cases hlt2 : t < i - 1
        · have hltz2 : (t : Int) < (i : Int) - 1 := by omega
          go_wp2_with fail
          have ea44 : ((t : Int)).toNat = t := by omega
          have pa44 : (0 : Int) ≤ (t : Int) := by omega
          have ba44 : (t : Int) < (sz : Int) := by omega
          have ra44 : IntKind.i64.wrap ((t : Int)) = (t : Int) := by rw [IntKind.wrap_i64]; omega
          have ec44 : ((t : Int) + 1).toNat = t + 1 := by omega
          have pc44 : (0 : Int) ≤ (t : Int) + 1 := by omega
          have bc44 : (t : Int) + 1 < (sz : Int) := by omega
          have rc44 : IntKind.i64.wrap ((t : Int) + 1) = (t : Int) + 1 := by rw [IntKind.wrap_i64]; omega
          have S2 : Aside (SWK enc k w0 blk off (swp dk t (t + 1)) ((wr.drew.setCells blk (off + t * k) (enc dk[t + 1]!)).setCells blk (off + (t + 1) * k) (enc dk[t]!))) := S1.out.swapped R t (t + 1) (by omega) (by omega)
          have l44a := S1.out.ld1 R (by omega) P t (by omega)
          have l44b := S1.out.ld1 R (by omega) P (t + 1) (by omega)
          have s44a := S1.out.st1 R (by omega) P t (by omega) dk[t + 1]!
          have s44b := S1.out.st2 R (by omega) P t (t + 1) (by omega) (by omega) dk[t + 1]! dk[t]!
          have n44a : (enc dk[t]!).length = k := R.hk _
          have n44b : (enc dk[t + 1]!).length = k := R.hk _
          generalize enc dk[t]! = cI44 at S2 l44a s44b n44a
          generalize enc dk[t + 1]! = cJ44 at S2 l44b s44a s44b n44b
          clear S1
          go_wp2_with fail
          go_big_region_o
          clear l44a l44b s44a s44b
          generalize (wr.drew.setCells blk (off + t * k) cJ44).setCells blk (off + (t + 1) * k) cI44 = w2 at S2 ⊢
          go_wp2
          go_roundg (i - 1 - (t + 1))
          case measure => omega
          case rel => exact ⟨t + 1, swp dk t (t + 1), by go_num, by omega, by omega, by omega, by rw [size_swp]; exact hds, S2, by have := HE.out; have hm := HM.out; subst hm; exact rot_on this hat (by omega)⟩
        · have hltz2 : ¬ (t : Int) < (i : Int) - 1 := by omega
          go_wp2
          (try simp only [Exit.inBlock, Exit.then]); refine bodyPost_ret (results_none rfl _ _ _) rfl ?_
          have ht : t + 1 = i := by omega
          have hr : RotR d dk a m i := by rw [← ht]; exact HE.out
          have hb' := HB.out
          have hl' := HL.out
          have hr' := HR.out
          have hm := HM.out
          subst hm
          exact ⟨rfl, dk, mer_first hr hai hjb hb' hl' hr', S1.out⟩
set_option maxHeartbeats 8000000 in
set_option maxRecDepth 1000000 in
theorem sym_last {P : Program} {k : Nat} (L : SL P k) (enc : α → List Value) (cf : α → α → Int) (hcf : ∀ x y, cf x y < 0 ↔ key x < key y) (g : Nat) (cb : Array Value) (blk off cap sz a m b : Nat) (hm : b = m + 1) (d0 d : Array α) (w0 w : World)
    (eg : ∀ args w, (callFunc g args).run P w = .ok (.enter g args) w) (hcmp : CmpLays P g cb enc k cf blk off sz w0)
    (R : RowK enc k w0 blk off d0) (hs : d0.size = sz) (hd : d.size = sz) (S : SWK enc k w0 blk off d w) (ham : a + 1 < m) (hb : b ≤ sz) (hsz : sz < 4611686018427387904) (hA : Srt key (sg d a m)) :
    Calls P 264 #[.slice (some ⟨blk, off, none⟩) sz cap, .int .i64 a, .int .i64 m, .int .i64 b, .func (.func g) #[] cb] w fun e w' => e = .returned (.tuple #[]) ∧ ∃ d', MerR key d d' a b ∧ SWK enc k w0 blk off d' w' := by
  obtain ⟨mixed, FS, FR, FG, _, aE, zE, t0, a0, z0, v0, ti, ai, zi, vi, tb, ab, zb, vb, ts, al, zs, vs, tf, af, zf, vf, tu, au, zu, vu⟩ := L
  have S0 : Aside (SWK enc k w0 blk off d w) := S
  have HC : Aside _ := hcmp
  have HB : Hid _ := hA
  have HCF : Aside _ := hcf
  clear S FS FR hcmp hA hcf
  have hbp : (((m : Int) - (a : Int)) == 1) = false := by simp; omega
  have hbq : (((b : Int) - (m : Int)) == 1) = true := by simp; omega
  have hmb : m < b := by omega
  have HM : Hid (b = m + 1) := hm
  clear hm
  go_enter FG, Tryz.ntmps264
  go_wp2
  go_loopg [14, 15] (m - a) (fun kx s10 s11 wr => ∃ (i j : Nat), s10 = .int .i64 i ∧ s11 = .int .i64 j ∧ a ≤ i ∧ i ≤ j ∧ j ≤ m ∧ j - i ≤ kx ∧ Aside (SWK enc k w0 blk off d wr) ∧ Hid (∀ t, a ≤ t → t < i → key d[t]! ≤ key d[m]!) ∧ Hid (∀ t, j ≤ t → t < m → key d[m]! < key d[t]!))
  case atStart => exact ⟨a, m, rfl, rfl, by omega, by omega, by omega, by omega, S0, fun t h1 h2 => by omega, fun t h1 h2 => by omega⟩
  case round =>
    clear S0
    obtain ⟨i, j, rfl, rfl, hai, hij, hjb, hkx, S1, HL, HR⟩ := hrel
    by_cases hlt : i < j
    · have hltz : (i : Int) < (j : Int) := by omega
      go_wp2_with fail
      obtain ⟨h, hh, hih, hhj⟩ : ∃ h : Nat, ((i : Int) + (j : Int)) / 2 = (h : Int) ∧ i ≤ h ∧ h < j := ⟨(i + j) / 2, by omega, by omega, by omega⟩
      rw [hh]
      have ea24 : ((m : Int)).toNat = m := by omega
      have pa24 : (0 : Int) ≤ (m : Int) := by omega
      have ba24 : (m : Int) < (sz : Int) := by omega
      have ec24 : ((h : Int)).toNat = h := by omega
      have pc24 : (0 : Int) ≤ (h : Int) := by omega
      have bc24 : (h : Int) < (sz : Int) := by omega
      obtain ⟨x24, hx24⟩ : ∃ x, x = d[m]! := ⟨_, rfl⟩
      obtain ⟨y24, hy24⟩ : ∃ x, x = d[h]! := ⟨_, rfl⟩
      have l24a := S1.out.ld R (by omega) P m (by omega)
      have l24b := S1.out.ld R (by omega) P h (by omega)
      rw [← hx24] at l24a
      rw [← hy24] at l24b
      have hc24 := S1.out.cmp HC.out (by omega) x24 y24
      have HX : Hid (x24 = d[m]! ∧ y24 = d[h]!) := ⟨hx24, hy24⟩
      clear hx24 hy24
      by_cases hv24 : cf x24 y24 < 0
      · have hd24 : decide (cf x24 y24 < 0) = true := decide_eq_true hv24
        go_wp2_with fail
        go_quiet_grown (first | (go_at_fn g; refine Calls.grown_of (hc24 _ _)))
        have S2 : Aside (SWK enc k w0 blk off d (grow (wr.drewN nq) osq)) := S1.out.grown nq osq
        clear l24a l24b hc24 S1
        generalize grow (wr.drewN nq) osq = w2 at S2 ⊢
        clear nq osq
        go_wp2
        go_roundg (h - i)
        case measure => omega
        case rel =>
          refine ⟨i, h, rfl, rfl, hai, hih, by omega, by omega, S2, HL, fun t h1 h2 => ?_⟩
          obtain ⟨e1, e2⟩ := HX.out
          have hk := (HCF.out _ _).1 hv24
          rw [e1, e2] at hk
          exact Int.lt_of_lt_of_le hk (srt_le HB.out (show a ≤ h by omega) h1 h2)
      · have hd24 : decide (cf x24 y24 < 0) = false := decide_eq_false hv24
        go_wp2_with fail
        go_quiet_grown (first | (go_at_fn g; refine Calls.grown_of (hc24 _ _)))
        have S2 : Aside (SWK enc k w0 blk off d (grow (wr.drewN nq) osq)) := S1.out.grown nq osq
        clear l24a l24b hc24 S1
        generalize grow (wr.drewN nq) osq = w2 at S2 ⊢
        clear nq osq
        go_wp2
        go_roundg (j - (h + 1))
        case measure => omega
        case rel =>
          refine ⟨h + 1, j, by go_num, rfl, by omega, by omega, hjb, by omega, S2, fun t h1 h2 => ?_, HR⟩
          obtain ⟨e1, e2⟩ := HX.out
          have hk : ¬ key x24 < key y24 := fun hk => by have := (HCF.out x24 y24).2 hk; omega
          rw [e1, e2] at hk
          have hk' : key d[h]! ≤ key d[m]! := by omega
          exact Int.le_trans (srt_le HB.out h1 (show t ≤ h by omega) (by omega)) hk'
    · have hltz : ¬ (i : Int) < (j : Int) := by omega
      obtain rfl : i = j := by omega
      go_wp2
      go_loopg [17] (m - i) (fun kx s13 wr2 => ∃ (t : Nat) (dk : Array α), s13 = .int .i64 t ∧ i ≤ t ∧ t ≤ m ∧ t - i ≤ kx ∧ dk.size = sz ∧ Aside (SWK enc k w0 blk off dk wr2) ∧ Hid (RotR d dk t m b))
      case atStart => exact ⟨m, d, rfl, by omega, by omega, by omega, hd, S1, RotR.nothing d m m b (.inl rfl)⟩
      case round =>
        clear S1
        obtain ⟨t, dk, rfl, hat, hti, hkt, hds, S1, HE⟩ := hrel
        by_cases hlt2 : i < t
        · obtain ⟨t, rfl⟩ : ∃ u, t = u + 1 := ⟨t - 1, by omega⟩
          have hltz2 : (i : Int) < ((t + 1 : Nat) : Int) := by omega
          have hltz3 : (i : Int) < (t : Int) + 1 := by omega
          go_wp2_with fail
          have ea44 : ((t : Int) + 1).toNat = t + 1 := by omega
          have pa44 : (0 : Int) ≤ (t : Int) + 1 := by omega
          have ba44 : (t : Int) + 1 < (sz : Int) := by omega
          have ra44 : IntKind.i64.wrap ((t : Int) + 1) = (t : Int) + 1 := by rw [IntKind.wrap_i64]; omega
          have ec44 : ((t : Int)).toNat = t := by omega
          have pc44 : (0 : Int) ≤ (t : Int) := by omega
          have bc44 : (t : Int) < (sz : Int) := by omega
          have rc44 : IntKind.i64.wrap (t : Int) = (t : Int) := by rw [IntKind.wrap_i64]; omega
          have S2 : Aside (SWK enc k w0 blk off (swp dk (t + 1) t) ((wr.drew.setCells blk (off + (t + 1) * k) (enc dk[t]!)).setCells blk (off + t * k) (enc dk[t + 1]!))) := S1.out.swapped R (t + 1) t (by omega) (by omega)
          have l44a := S1.out.ld1 R (by omega) P (t + 1) (by omega)
          have l44b := S1.out.ld1 R (by omega) P t (by omega)
          have s44a := S1.out.st1 R (by omega) P (t + 1) (by omega) dk[t]!
          have s44b := S1.out.st2 R (by omega) P (t + 1) t (by omega) (by omega) dk[t]! dk[t + 1]!
          have n44a : (enc dk[t + 1]!).length = k := R.hk _
          have n44b : (enc dk[t]!).length = k := R.hk _
          generalize enc dk[t + 1]! = cI44 at S2 l44a s44b n44a
          generalize enc dk[t]! = cJ44 at S2 l44b s44a s44b n44b
          clear S1
          go_wp2_with fail
          go_big_region_o
          clear l44a l44b s44a s44b
          generalize (wr.drew.setCells blk (off + (t + 1) * k) cJ44).setCells blk (off + t * k) cI44 = w2 at S2 ⊢
          go_wp2
          go_roundg (t - i)
          case measure => omega
          case rel => exact ⟨t, swp dk (t + 1) t, by first | rfl | go_num | (congr 1; omega), by omega, by omega, by omega, by rw [size_swp]; exact hds, S2, by have := HE.out; have hm := HM.out; subst hm; exact rot_back this (by omega) (by omega)⟩
        · have hltz2 : ¬ (i : Int) < (t : Int) := by omega
          go_wp2
          (try simp only [Exit.inBlock, Exit.then]); refine bodyPost_ret (results_none rfl _ _ _) rfl ?_
          obtain rfl : t = i := by omega
          have hr := HE.out
          have hb' := HB.out
          have hl' := HL.out
          have hr' := HR.out
          have hm := HM.out
          subst hm
          exact ⟨rfl, dk, mer_last hr hai hti hb' hl' hr', S1.out⟩
def Sym (P : Program) (enc : α → List Value) (key : α → Int) (k g : Nat) (cb : Array Value) (blk off cap sz : Nat) (w0 : World) (N : Nat) : Prop :=
  ∀ (a m b : Nat) (d : Array α) (w : World), b - a < N → a < m → m < b → b ≤ sz → d.size = sz → SWK enc k w0 blk off d w → Srt key (sg d a m) → Srt key (sg d m b) → ∀ az mz bz : Int, az = a → mz = m → bz = b →
    Calls P 264 #[.slice (some ⟨blk, off, none⟩) sz cap, .int .i64 az, .int .i64 mz, .int .i64 bz, .func (.func g) #[] cb] w fun e w' => e = .returned (.tuple #[]) ∧ ∃ d', MerR key d d' a b ∧ SWK enc k w0 blk off d' w'
set_option maxHeartbeats 40000000 in
set_option maxRecDepth 1000000 in
theorem sym_rec {P : Program} {k : Nat} (L : SL P k) (enc : α → List Value) (cf : α → α → Int) (hcf : ∀ x y, cf x y < 0 ↔ key x < key y) (g : Nat) (cb : Array Value) (blk off cap sz a m b : Nat) (d0 d : Array α) (w0 w : World)
    (eg : ∀ args w, (callFunc g args).run P w = .ok (.enter g args) w) (hcmp : CmpLays P g cb enc k cf blk off sz w0)
    (R : RowK enc k w0 blk off d0) (hs : d0.size = sz) (hd : d.size = sz) (S : SWK enc k w0 blk off d w) (ham : a + 1 < m) (hmb : m + 1 < b) (hb : b ≤ sz) (hsz : sz < 4611686018427387904) (hA : Srt key (sg d a m)) (hB : Srt key (sg d m b))
    (ih : Sym P enc key k g cb blk off cap sz w0 (b - a)) :
    Calls P 264 #[.slice (some ⟨blk, off, none⟩) sz cap, .int .i64 a, .int .i64 m, .int .i64 b, .func (.func g) #[] cb] w fun e w' => e = .returned (.tuple #[]) ∧ ∃ d', MerR key d d' a b ∧ SWK enc k w0 blk off d' w' := by
  have hrot := fun (ra rm rb : Nat) (dk : Array α) (wr : World) (hd : dk.size = sz) (S : SWK enc k w0 blk off dk wr) (h1 : ra < rm) (h2 : rm < rb) (h3 : rb ≤ sz) (bz : Int) (e : bz = rb) =>
    (show Calls P 276 #[.slice (some ⟨blk, off, none⟩) sz cap, .int .i64 ra, .int .i64 rm, .int .i64 bz, .func (.func g) #[] cb] wr fun e w' => e = .returned (.tuple #[]) ∧ ∃ d', RotR dk d' ra rm rb ∧ SWK enc k w0 blk off d' w' from by
      subst e; exact rotate_any L enc g cb blk off cap sz ra rm rb d0 dk w0 wr R hs hd S h1 h2 h3 hsz)
  obtain ⟨mixed, FS, FR, FG, _, aE, zE, t0, a0, z0, v0, ti, ai, zi, vi, tb, ab, zb, vb, ts, al, zs, vs, tf, af, zf, vf, tu, au, zu, vu⟩ := L
  have er : ∀ args w, (callFunc 276 args).run P w = .ok (.enter 276 args) w := enters_of FR (by kernel_rfl) rfl
  have em : ∀ args w, (callFunc 264 args).run P w = .ok (.enter 264 args) w := enters_of FG (by kernel_rfl) rfl
  have S0 : Aside (SWK enc k w0 blk off d w) := S
  have HC : Aside _ := hcmp
  have HA : Hid _ := hA
  have HB : Hid _ := hB
  have HCF : Aside _ := hcf
  have HROT : Aside _ := hrot
  have IH : Aside _ := ih
  clear S FS FR hcmp hA hB hcf hrot ih
  have hbp : (((m : Int) - (a : Int)) == 1) = false := by simp; omega
  have hbq : (((b : Int) - (m : Int)) == 1) = false := by simp; omega
  obtain ⟨M, hM, hM1, hM2⟩ : ∃ M : Nat, ((a : Int) + (b : Int)) / 2 = (M : Int) ∧ 2 * M ≤ a + b ∧ a + b ≤ 2 * M + 1 := ⟨(a + b) / 2, by omega, by omega, by omega⟩
  go_enter FG, Tryz.ntmps264
  go_upto_if 140 with (fail)
  go_cut [20, 21] (fun s20 s21 wx => ∃ s0 r0 : Nat, s20 = .int .i64 s0 ∧ s21 = .int .i64 r0 ∧ Cut a m b M s0 r0 ∧ wx = w)
  case first =>
    by_cases hlt : M < m
    · have hltz : (M : Int) < (m : Int) := by omega
      go_wp2
      go_meet
      refine ⟨M + m - b, M, ?_, rfl, ⟨by omega, by omega, by omega, by omega, by omega, by omega, by omega⟩, rfl⟩
      first | rfl | go_num | (congr 1; omega)
    · have hltz : ¬ (M : Int) < (m : Int) := by omega
      go_wp2
      go_meet
      exact ⟨a, m, rfl, rfl, ⟨by omega, by omega, by omega, by omega, by omega, by omega, by omega⟩, rfl⟩
  case rest =>
    obtain ⟨s0, r0, rfl, rfl, C, rfl⟩ := hcut
    have lo := C.lo; have sr := C.sr; have rm := C.rm; have rM := C.rM; have up := C.up
    have HSE : Hid ((s0 = a ∨ s0 + b = M + m) ∧ (r0 = m ∨ r0 = M)) := ⟨C.sa, C.re⟩
    clear C
    go_wp2
    go_loopg [20, 21] (r0 - s0) (fun kx s20 s21 wr => ∃ (i j : Nat), s20 = .int .i64 i ∧ s21 = .int .i64 j ∧ s0 ≤ i ∧ i ≤ j ∧ j ≤ r0 ∧ j - i ≤ kx ∧ Aside (SWK enc k w0 blk off d wr) ∧ Hid (∀ t, s0 ≤ t → t < i → key d[t]! ≤ key d[M + m - 1 - t]!) ∧ Hid (∀ t, j ≤ t → t < r0 → key d[M + m - 1 - t]! < key d[t]!))
    case atStart => exact ⟨s0, r0, rfl, rfl, by omega, by omega, by omega, by omega, S0, fun t h1 h2 => by omega, fun t h1 h2 => by omega⟩
    case round =>
      clear S0
      obtain ⟨i, j, rfl, rfl, hai, hij, hjb, hkx, S1, HL, HR⟩ := hrel
      by_cases hlt : i < j
      · have hltz : (i : Int) < (j : Int) := by omega
        go_wp2_with fail
        obtain ⟨h, hh, hih, hhj⟩ : ∃ h : Nat, ((i : Int) + (j : Int)) / 2 = (h : Int) ∧ i ≤ h ∧ h < j := ⟨(i + j) / 2, by omega, by omega, by omega⟩
        rw [hh]
        obtain ⟨q, hq, hq1, hq2⟩ : ∃ q : Nat, (M : Int) + (m : Int) - 1 - (h : Int) = (q : Int) ∧ m ≤ q ∧ q < b := ⟨M + m - 1 - h, by omega, by omega, by omega⟩
        have HQ : Hid (M + m - 1 - h = q) := (by omega : M + m - 1 - h = q)
        have ea24 : ((q : Int)).toNat = q := by omega
        have pa24 : (0 : Int) ≤ (q : Int) := by omega
        have ba24 : (q : Int) < (sz : Int) := by omega
        have ra24 : IntKind.i64.wrap (q : Int) = (q : Int) := by rw [IntKind.wrap_i64]; omega
        have ec24 : ((h : Int)).toNat = h := by omega
        have pc24 : (0 : Int) ≤ (h : Int) := by omega
        have bc24 : (h : Int) < (sz : Int) := by omega
        obtain ⟨x24, hx24⟩ : ∃ x, x = d[q]! := ⟨_, rfl⟩
        obtain ⟨y24, hy24⟩ : ∃ x, x = d[h]! := ⟨_, rfl⟩
        have l24a := S1.out.ld R (by omega) P q (by omega)
        have l24b := S1.out.ld R (by omega) P h (by omega)
        rw [← hx24] at l24a
        rw [← hy24] at l24b
        have hc24 := S1.out.cmp HC.out (by omega) x24 y24
        have HX : Hid (x24 = d[q]! ∧ y24 = d[h]!) := ⟨hx24, hy24⟩
        clear hx24 hy24
        by_cases hv24 : cf x24 y24 < 0
        · have hd24 : decide (cf x24 y24 < 0) = true := decide_eq_true hv24
          go_wp2_with fail
          go_quiet_grown (first | (go_at_fn g; refine Calls.grown_of (hc24 _ _)))
          have S2 : Aside (SWK enc k w0 blk off d (grow (wr.drewN nq) osq)) := S1.out.grown nq osq
          clear l24a l24b hc24 S1
          generalize grow (wr.drewN nq) osq = w2 at S2 ⊢
          clear nq osq
          go_wp2
          go_roundg (h - i)
          case measure => omega
          case rel =>
            refine ⟨i, h, rfl, rfl, hai, hih, by omega, by omega, S2, HL, fun t h1 h2 => ?_⟩
            obtain ⟨e1, e2⟩ := HX.out
            have hk := (HCF.out _ _).1 hv24
            have hqe := HQ.out
            rw [e1, e2] at hk
            exact Int.lt_of_lt_of_le (Int.lt_of_le_of_lt (srt_le HB.out (show m ≤ M + m - 1 - t by omega) (show M + m - 1 - t ≤ q by omega) hq2) hk) (srt_le HA.out (show a ≤ h by omega) h1 (by omega))
        · have hd24 : decide (cf x24 y24 < 0) = false := decide_eq_false hv24
          go_wp2_with fail
          go_quiet_grown (first | (go_at_fn g; refine Calls.grown_of (hc24 _ _)))
          have S2 : Aside (SWK enc k w0 blk off d (grow (wr.drewN nq) osq)) := S1.out.grown nq osq
          clear l24a l24b hc24 S1
          generalize grow (wr.drewN nq) osq = w2 at S2 ⊢
          clear nq osq
          go_wp2
          go_roundg (j - (h + 1))
          case measure => omega
          case rel =>
            refine ⟨h + 1, j, by go_num, rfl, by omega, by omega, hjb, by omega, S2, fun t h1 h2 => ?_, HR⟩
            obtain ⟨e1, e2⟩ := HX.out
            have hk : ¬ key x24 < key y24 := fun hk => by have := (HCF.out x24 y24).2 hk; omega
            rw [e1, e2] at hk
            have hqe := HQ.out
            have hk' : key d[h]! ≤ key d[q]! := by omega
            exact Int.le_trans (Int.le_trans (srt_le HA.out (show a ≤ t by omega) (show t ≤ h by omega) (by omega)) hk') (srt_le HB.out hq1 (show q ≤ M + m - 1 - t by omega) (by omega))
      · have hltz : ¬ (i : Int) < (j : Int) := by omega
        obtain rfl : i = j := by omega
        obtain ⟨e, he, hme, heb⟩ : ∃ e : Nat, (M : Int) + (m : Int) - (i : Int) = (e : Int) ∧ m ≤ e ∧ e ≤ b := ⟨M + m - i, by omega, by omega, by omega⟩
        have him : i ≤ m := by omega
        have HE : Hid (M + m - i = e ∧ M = i + (e - m)) := ⟨by omega, by omega⟩
        have H12 : Hid (a < i → e < b → key d[i - 1]! ≤ key d[e]!) := fun h1 h2 => by
          have := HL.out (i - 1) (by have := HSE.out; omega) (by omega)
          rwa [show M + m - 1 - (i - 1) = e by omega] at this
        have H21 : Hid (m < e → i < m → key d[e - 1]! < key d[i]!) := fun h1 h2 => by
          have := HR.out i (Nat.le_refl _) (by have := HSE.out; omega)
          rwa [show M + m - 1 - i = e - 1 by omega] at this
        clear HL HR HSE
        have SX : Aside (SWK enc k w0 blk off d wr) := S1
        go_upto_region 39 with (fail)
        -- the rotation
        rcases (by omega : ¬ i < m ∨ (i < m ∧ ¬ m < e) ∨ (i < m ∧ m < e)) with hc | ⟨hc, hc2⟩ | ⟨hc, hc2⟩
        all_goals first
          | (have z1 : ¬ (i : Int) < (m : Int) := (by omega)
             have z2 : decide ((i : Int) < (m : Int)) = false := decide_eq_false z1
             obtain ⟨d1, H1, S2⟩ : ∃ d1, Hid (RotR d d1 i m e) ∧ Aside (SWK enc k w0 blk off d1 wr) := ⟨d, RotR.nothing d i m e (.inl (by omega)), S1⟩
             clear S1
             go_upto_region 41 with (fail))
          | (have z1 : (i : Int) < (m : Int) := (by omega)
             have z3 : ¬ (m : Int) < (e : Int) := (by omega)
             obtain ⟨d1, H1, S2⟩ : ∃ d1, Hid (RotR d d1 i m e) ∧ Aside (SWK enc k w0 blk off d1 wr) := ⟨d, RotR.nothing d i m e (.inr (by omega)), S1⟩
             clear S1
             go_upto_region 41 with (fail))
          | (have z1 : (i : Int) < (m : Int) := (by omega)
             have z3 : (m : Int) < (e : Int) := (by omega)
             have hcall := HROT.out i m e d wr hd S1.out hc hc2 (by omega) (e : Int) rfl
             clear S1
             go_upto_region 41 with (go_at_fn 276; refine hcall.mono ?_; rintro e1 w1 ⟨rfl, d1, h1, s2⟩)
             have H1 : Hid (RotR d d1 i m e) := h1
             have S2 : Aside (SWK enc k w0 blk off d1 w1) := s2
             clear h1 s2 hcall)
        all_goals
          have HD1 : Hid (d1.size = sz ∧ Srt key (sg d1 a i) ∧ Srt key (sg d1 i M) ∧ Srt key (sg d1 M e) ∧ Srt key (sg d1 e b)) := ⟨H1.out.1.trans hd, cut_runs (by omega) him hme heb HE.out.2 HA.out HB.out H1.out⟩
          rcases (by omega : ¬ a < i ∨ (a < i ∧ ¬ i < M) ∨ (a < i ∧ i < M)) with hc3 | ⟨hc3, hc4⟩ | ⟨hc3, hc4⟩
        all_goals first
          | (have y1 : ¬ (a : Int) < (i : Int) := (by omega)
             have y2 : decide ((a : Int) < (i : Int)) = false := decide_eq_false y1
             obtain ⟨d2, H2, S3⟩ : ∃ d2, Hid (MerR key d1 d2 a M) ∧ Aside (SWK enc k w0 blk off d2 _) := ⟨d1, mer_nothing HD1.out.2.1 HD1.out.2.2.1 (.inl (by omega)), S2⟩
             clear S2
             go_upto_region 43 with (fail))
          | (have y1 : (a : Int) < (i : Int) := (by omega)
             have y3 : ¬ (i : Int) < (M : Int) := (by omega)
             obtain ⟨d2, H2, S3⟩ : ∃ d2, Hid (MerR key d1 d2 a M) ∧ Aside (SWK enc k w0 blk off d2 _) := ⟨d1, mer_nothing HD1.out.2.1 HD1.out.2.2.1 (.inr (by omega)), S2⟩
             clear S2
             go_upto_region 43 with (fail))
          | (have y1 : (a : Int) < (i : Int) := (by omega)
             have y3 : (i : Int) < (M : Int) := (by omega)
             have hcall2 := IH.out a i M d1 _ (by omega) hc3 hc4 (by omega) HD1.out.1 S2.out HD1.out.2.1 HD1.out.2.2.1 a i M rfl rfl rfl
             clear S2
             go_upto_region 43 with (go_at_fn 264; refine hcall2.mono ?_; rintro e2 w2 ⟨rfl, d2, h2, s3⟩)
             have H2 : Hid (MerR key d1 d2 a M) := h2
             have S3 : Aside (SWK enc k w0 blk off d2 w2) := s3
             clear h2 s3 hcall2)
        all_goals
          have HD2 : Hid (d2.size = sz ∧ Srt key (sg d2 M e) ∧ Srt key (sg d2 e b)) := ⟨H2.out.size.trans HD1.out.1,
            (by rw [sg_same (d := d2) (d' := d1) fun j p q => H2.out.out j (by omega)]; exact HD1.out.2.2.2.1), (by rw [sg_same (d := d2) (d' := d1) fun j p q => H2.out.out j (by have := HE.out; omega)]; exact HD1.out.2.2.2.2)⟩
          rcases (by omega : ¬ M < e ∨ (M < e ∧ ¬ e < b) ∨ (M < e ∧ e < b)) with hc5 | ⟨hc5, hc6⟩ | ⟨hc5, hc6⟩
        all_goals first
          | (have x1 : ¬ (M : Int) < (e : Int) := (by omega)
             have x2 : decide ((M : Int) < (e : Int)) = false := decide_eq_false x1
             obtain ⟨d3, H3, S4⟩ : ∃ d3, Hid (MerR key d2 d3 M b) ∧ Aside (SWK enc k w0 blk off d3 _) := ⟨d2, mer_nothing HD2.out.2.1 HD2.out.2.2 (.inl (by have := HE.out; omega)), S3⟩
             clear S3
             go_wp2)
          | (have x1 : (M : Int) < (e : Int) := (by omega)
             have x3 : ¬ (e : Int) < (b : Int) := (by omega)
             obtain ⟨d3, H3, S4⟩ : ∃ d3, Hid (MerR key d2 d3 M b) ∧ Aside (SWK enc k w0 blk off d3 _) := ⟨d2, mer_nothing HD2.out.2.1 HD2.out.2.2 (.inr (by omega)), S3⟩
             clear S3
             go_wp2)
          | (have x1 : (M : Int) < (e : Int) := (by omega)
             have x3 : (e : Int) < (b : Int) := (by omega)
             have hcall3 := IH.out M e b d2 _ (by omega) hc5 hc6 (by omega) HD2.out.1 S3.out HD2.out.2.1 HD2.out.2.2 M e b rfl rfl rfl
             clear S3
             go_wp2_with (go_at_fn 264; refine hcall3.mono ?_; rintro e2 w3 ⟨rfl, d3, h3, s4⟩)
             have H3 : Hid (MerR key d2 d3 M b) := h3
             have S4 : Aside (SWK enc k w0 blk off d3 w3) := s4
             clear h3 s4 hcall3)
        all_goals
          go_end0
          exact ⟨rfl, d3, mer_cut (by omega) him hme heb HE.out.2 HA.out HB.out H12.out H21.out H1.out H2.out H3.out, S4.out⟩
theorem sym_all {P : Program} {k : Nat} (L : SL P k) (enc : α → List Value) (cf : α → α → Int) (hcf : ∀ x y, cf x y < 0 ↔ key x < key y) (g : Nat) (cb : Array Value) (blk off cap sz : Nat) (d0 : Array α) (w0 : World)
    (eg : ∀ args w, (callFunc g args).run P w = .ok (.enter g args) w) (hcmp : CmpLays P g cb enc k cf blk off sz w0)
    (R : RowK enc k w0 blk off d0) (hs : d0.size = sz) (hsz : sz < 4611686018427387904) : ∀ N, Sym P enc key k g cb blk off cap sz w0 N
  | 0 => fun a m b d w h => absurd h (by omega)
  | N + 1 => fun a m b d w hN ham hmb hb hd S hA hB az mz bz ea em eb => by
    have ih := sym_all L enc cf hcf g cb blk off cap sz d0 w0 eg hcmp R hs hsz N
    subst ea em eb
    by_cases h1 : m = a + 1
    · exact sym_first L enc cf hcf g cb blk off cap sz a m b h1 d0 d w0 w eg hcmp R hs hd S hmb hb hsz hB
    · by_cases h2 : b = m + 1
      · exact sym_last L enc cf hcf g cb blk off cap sz a m b h2 d0 d w0 w eg hcmp R hs hd S (by omega) hb hsz hA
      · exact sym_rec L enc cf hcf g cb blk off cap sz a m b d0 d w0 w eg hcmp R hs hd S (by omega) (by omega) hb hsz hA hB
          (fun a' m' b' d' w' h => ih a' m' b' d' w' (by omega))
def Ins (P : Program) (enc : α → List Value) (key : α → Int) (k g : Nat) (cb : Array Value) (blk off cap sz : Nat) (w0 : World) : Prop :=
  ∀ (a b : Nat) (d : Array α) (w : World), a ≤ b → b ≤ sz → d.size = sz → SWK enc k w0 blk off d w →
    Calls P 263 #[.slice (some ⟨blk, off, none⟩) sz cap, .int .i64 a, .int .i64 b, .func (.func g) #[] cb] w fun e w' => e = .returned (.tuple #[]) ∧ ∃ d', MerR key d d' a b ∧ SWK enc k w0 blk off d' w'
set_option maxHeartbeats 8000000 in
set_option maxRecDepth 1000000 in
theorem stable_any {P : Program} {k : Nat} (L : SL P k) (enc : α → List Value) (cf : α → α → Int) (hcf : ∀ x y, cf x y < 0 ↔ key x < key y) (g : Nat) (cb : Array Value) (blk off cap sz : Nat) (d0 d : Array α) (w0 w : World)
    (eg : ∀ args w, (callFunc g args).run P w = .ok (.enter g args) w) (hcmp : CmpLays P g cb enc k cf blk off sz w0)
    (R : RowK enc k w0 blk off d0) (hs : d0.size = sz) (hd : d.size = sz) (S : SWK enc k w0 blk off d w) (hsz : sz < 1152921504606846976) (hins : Ins P enc key k g cb blk off cap sz w0)
    (ei : ∀ args w, (callFunc 263 args).run P w = .ok (.enter 263 args) w) :
    Calls P 237 #[.slice (some ⟨blk, off, none⟩) sz cap, .int .i64 sz, .func (.func g) #[] cb] w fun e w' => e = .returned (.tuple #[]) ∧ ∃ d', d'.size = sz ∧ Srt key (sg d' 0 sz) ∧ Ren key (sg d 0 sz) (sg d' 0 sz) ∧ SWK enc k w0 blk off d' w' := by
  have hsym := sym_all L enc cf hcf g cb blk off cap sz d0 w0 eg hcmp R hs (by omega) (sz + 1)
  obtain ⟨mixed, FS, FR, FM, FG, aE, zE, t0, a0, z0, v0, ti, ai, zi, vi, tb, ab, zb, vb, ts, al, zs, vs, tf, af, zf, vf, tu, au, zu, vu⟩ := L
  have em : ∀ args w, (callFunc 264 args).run P w = .ok (.enter 264 args) w := enters_of FM (by kernel_rfl) rfl
  have S0 : Aside (SWK enc k w0 blk off d w) := S
  have HS : Aside _ := hsym
  have HI : Aside _ := hins
  clear S FS FR FM hcmp hsym hins
  go_enter FG, Tryz.ntmps237
  go_wp2
  go_loopg [7, 8] (sz + 1) (fun kx s7 s8 wr => ∃ (i : Nat) (dk : Array α), s7 = .int .i64 i ∧ s8 = .int .i64 ((i + 20 : Nat) : Int) ∧ i ≤ sz ∧ sz + 1 - i ≤ kx ∧ dk.size = sz ∧ Aside (SWK enc k w0 blk off dk wr) ∧ Hid (20 ∣ i) ∧ Hid (Bl key d dk 20 i sz))
  case atStart => exact ⟨0, d, rfl, rfl, by omega, by omega, hd, S0, Nat.dvd_zero _, Bl.zero d 20 sz⟩
  case round =>
    clear S0
    obtain ⟨i, dk, rfl, rfl, hi, hkx, hds, S1, HD, HB⟩ := hrel
    by_cases hlt : i + 20 ≤ sz
    · have hltz : ((i + 20 : Nat) : Int) ≤ (sz : Int) := by omega
      have hltz2 : (i : Int) + 20 ≤ (sz : Int) := by omega
      have hcall := HI.out i (i + 20) dk wr (by omega) hlt hds S1.out
      clear S1
      go_wp2_with (go_at_fn 263; refine hcall.mono ?_; rintro e1 w1 ⟨rfl, d1, H1, S2⟩)
      go_roundg (sz + 1 - (i + 20))
      case measure => omega
      case rel =>
        refine ⟨i + 20, d1, by first | rfl | go_num, by first | rfl | go_num | (congr 1; omega), hlt, by omega, H1.size.trans hds, S2, (Nat.dvd_add HD.out (Nat.dvd_refl _)), HB.out.step HD.out (by omega) (by omega) hi H1⟩
    · have hltz : ¬ ((i + 20 : Nat) : Int) ≤ (sz : Int) := by omega
      have hltz2 : ¬ (i : Int) + 20 ≤ (sz : Int) := by omega
      have hcall := HI.out i sz dk wr hi (Nat.le_refl _) hds S1.out
      clear S1
      go_wp2_with (go_at_fn 263; refine hcall.mono ?_; rintro e1 w1 ⟨rfl, d1, H1, S2⟩)
      have HB1 : Hid (Bl key d d1 20 sz sz) := (HB.out.step HD.out (by omega) (by omega) hi H1).less (by omega)
      have hd1 : d1.size = sz := H1.size.trans hds
      have S3 : Aside (SWK enc k w0 blk off d1 w1) := S2
      clear HB HD H1 S2 hds
      go_loopg [6, 7, 8, 9] sz (fun kx s6 s7 s8 s9 wr => ∃ (s : Nat) (dk : Array α), s6 = .int .i64 s ∧ 0 < s ∧ s ≤ 2 * sz + 20 ∧ sz - s ≤ kx ∧ dk.size = sz ∧ Aside (SWK enc k w0 blk off dk wr) ∧ Hid (Bl key d dk s sz sz))
      case atStart => exact ⟨20, d1, rfl, by omega, by omega, by omega, hd1, S3, HB1⟩
      case round =>
        clear S3 HB1 hd1 hcall
        obtain ⟨s, dk, rfl, hs0, hs2, hkx2, hds, S1, HB⟩ := hrel
        by_cases hlt3 : s < sz
        · have hltz3 : (s : Int) < (sz : Int) := by omega
          go_wp2_with fail
          go_loopg [7, 8] (sz + 1) (fun kx s7 s8 wr => ∃ (i : Nat) (dj : Array α), s7 = .int .i64 i ∧ s8 = .int .i64 ((i + 2 * s : Nat) : Int) ∧ i ≤ sz ∧ sz + 1 - i ≤ kx ∧ dj.size = sz ∧ Aside (SWK enc k w0 blk off dj wr) ∧ Hid (2 * s ∣ i) ∧ Hid (Mg key d dj s i sz))
          case atStart => exact ⟨0, dk, rfl, by first | rfl | go_num | (congr 1; omega), by omega, by omega, hds, S1, Nat.dvd_zero _, Mg.start HB.out⟩
          case round =>
            clear S1 HB hds
            obtain ⟨i, dj, rfl, rfl, hi, hkx3, hds, S1, HD, HB⟩ := hrel
            by_cases hlt : i + 2 * s ≤ sz
            · have hltz : ((i + 2 * s : Nat) : Int) ≤ (sz : Int) := by omega
              have hltz2 : (i : Int) + 2 * (s : Int) ≤ (sz : Int) := by omega
              have hds2 : s ∣ i := Nat.dvd_trans (Nat.dvd_mul_left s 2) HD.out
              have hcall := HS.out i (i + s) (i + 2 * s) dj wr (by omega) (by omega) (by omega) hlt hds S1.out (by have := HB.out.todo i hds2 (Nat.le_refl _) (by omega); rwa [show min (i + s) sz = i + s by omega] at this)
                (by have := HB.out.todo (i + s) (Nat.dvd_add hds2 (Nat.dvd_refl _)) (by omega) (by omega); rwa [show min (i + s + s) sz = i + 2 * s by omega] at this) i ((i : Int) + s) ((i : Int) + 2 * s) rfl (by omega) (by omega)
              have HS0 : Hid (s ∣ i) := hds2
              clear S1 hds2
              go_wp2_with (go_at_fn 264; refine hcall.mono ?_; rintro e1 w1 ⟨rfl, d1, H1, S2⟩)
              go_roundg (sz + 1 - (i + 2 * s))
              case measure => omega
              case rel =>
                refine ⟨i + 2 * s, d1, by first | rfl | go_num | (congr 1; omega), by first | rfl | go_num | (congr 1; omega), hlt, by omega, H1.size.trans hds, S2, Nat.dvd_add HD.out (Nat.dvd_refl _), HB.out.step HD.out hs0 (by omega) (by omega) H1⟩
            · have hltz : ¬ ((i + 2 * s : Nat) : Int) ≤ (sz : Int) := by omega
              have hltz2 : ¬ (i : Int) + 2 * (s : Int) ≤ (sz : Int) := by omega
              by_cases hm : i + s < sz
              · have hmz : (i : Int) + (s : Int) < (sz : Int) := by omega
                have hds2 : s ∣ i := Nat.dvd_trans (Nat.dvd_mul_left s 2) HD.out
                have hcall := HS.out i (i + s) sz dj wr (by omega) (by omega) (by omega) (Nat.le_refl _) hds S1.out (by have := HB.out.todo i hds2 (Nat.le_refl _) (by omega); rwa [show min (i + s) sz = i + s by omega] at this)
                  (by have := HB.out.todo (i + s) (Nat.dvd_add hds2 (Nat.dvd_refl _)) (by omega) (by omega); rwa [show min (i + s + s) sz = sz by omega] at this) i ((i : Int) + s) sz rfl (by omega) rfl
                have HS0 : Hid (s ∣ i) := hds2
                clear S1 hds2
                go_wp2_with (go_at_fn 264; refine hcall.mono ?_; rintro e1 w1 ⟨rfl, d1, H1, S2⟩)
                go_roundg (sz - 2 * s)
                case measure => omega
                case rel =>
                  exact ⟨2 * s, d1, by first | rfl | go_num | (congr 1; omega), by omega, by omega, by omega, H1.size.trans hds, S2,
                    (HB.out.step (e := sz) HD.out hs0 hm (by omega) H1).finish (by omega) (Nat.dvd_add HD.out (Nat.dvd_refl _)) hs0⟩
              · have hmz : ¬ (i : Int) + (s : Int) < (sz : Int) := by omega
                go_wp2
                go_roundg (sz - 2 * s)
                case measure => omega
                case rel =>
                  exact ⟨2 * s, dj, by first | rfl | go_num | (congr 1; omega), by omega, by omega, by omega, hds, S1, HB.out.finish (by omega) HD.out hs0⟩
        · have hltz3 : ¬ (s : Int) < (sz : Int) := by omega
          go_wp2
          go_end0
          exact ⟨rfl, dk, hds, HB.out.all (by omega), HB.out.ren, S1.out⟩
end Go.Proofs.YtpchhfhmopmagaaGreat.Fi
