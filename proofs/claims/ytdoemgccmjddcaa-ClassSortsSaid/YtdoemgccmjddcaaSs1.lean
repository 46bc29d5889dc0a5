/- slices.SortStableFunc's family at classes: the facts that the walks want of a program, at elements of k cells (k a variable: so that no load is opened); swapRange. -/
import Derived.Test.YtdoemgccmjddcaaChecked
import Derived.Shelf.SlSortCmp.KitK
import Derived.Sort.LotA
import Derived.Sort.WalkB2
import Derived.Sort.WalkB12
import Derived.Deep.LoopGhost
namespace Go.Proofs.Ytdoemgccmjddcaa.So
open Go.Shelf Go.RowKit Go.Lib Go.Sort

/-- a program that bears these bodies, with the element's type of k cells -/
structure SL (P : Program) (k : Nat) : Prop where
  mixed : P.follows .mixedOrders = true
  swapR : P.funcs[189]? = some Try.f189
  rot : P.funcs[183]? = some Try.f183
  sym : P.funcs[171]? = some Try.f171
  stab : P.funcs[164]? = some Try.f164
  aE : ∀ w, (isAgg 64).run P w = .ok true w
  zE : ∀ w, (Go.sizeOf 64).run P w = .ok k w
  t0 : P.underlying 0 = some (TypeDesc.tuple #[])
  a0 : ∀ w, (isAgg 0).run P w = .ok false w
  z0 : ∀ w, (Go.sizeOf 0).run P w = .ok 1 w
  v0 : ∀ w, (zeroValue 0).run P w = .ok (Value.tuple #[]) w
  ti : P.underlying 3 = some (TypeDesc.int IntKind.i64)
  ai : ∀ w, (isAgg 3).run P w = .ok false w
  zi : ∀ w, (Go.sizeOf 3).run P w = .ok 1 w
  vi : ∀ w, (zeroValue 3).run P w = .ok (Value.int IntKind.i64 0) w
  tb : P.underlying 4 = some (TypeDesc.bool)
  ab : ∀ w, (isAgg 4).run P w = .ok false w
  zb : ∀ w, (Go.sizeOf 4).run P w = .ok 1 w
  vb : ∀ w, (zeroValue 4).run P w = .ok (Value.bool false) w
  ts : P.underlying 22 = some (TypeDesc.slice 64)
  al : ∀ w, (isAgg 22).run P w = .ok false w
  zs : ∀ w, (Go.sizeOf 22).run P w = .ok 1 w
  vs : ∀ w, (zeroValue 22).run P w = .ok (Value.slice none 0 0) w
  tf : P.underlying 147 = some (TypeDesc.func #[64, 64] #[3] false)
  af : ∀ w, (isAgg 147).run P w = .ok false w
  zf : ∀ w, (Go.sizeOf 147).run P w = .ok 1 w
  vf : ∀ w, (zeroValue 147).run P w = .ok (Value.nilFunc) w
  tu : P.underlying 183 = some (TypeDesc.int IntKind.u64)
  au : ∀ w, (isAgg 183).run P w = .ok false w
  zu : ∀ w, (Go.sizeOf 183).run P w = .ok 1 w
  vu : ∀ w, (zeroValue 183).run P w = .ok (Value.int IntKind.u64 0) w

theorem sl : SL Try.prog 11 where
  mixed := by kernel_rfl
  swapR := Try.func189
  rot := Try.func183
  sym := Try.func171
  stab := Try.func164
  aE := Try.isAgg64
  zE := Try.sizeOf64
  t0 := Try.underlying0
  a0 := Try.isAgg0
  z0 := Try.sizeOf0
  v0 := Try.zeroValue0
  ti := Try.underlying3
  ai := Try.isAgg3
  zi := Try.sizeOf3
  vi := Try.zeroValue3
  tb := Try.underlying4
  ab := Try.isAgg4
  zb := Try.sizeOf4
  vb := Try.zeroValue4
  ts := Try.underlying22
  al := Try.isAgg22
  zs := Try.sizeOf22
  vs := Try.zeroValue22
  tf := Try.underlying147
  af := Try.isAgg147
  zf := Try.sizeOf147
  vf := Try.zeroValue147
  tu := Try.underlying183
  au := Try.isAgg183
  zu := Try.sizeOf183
  vu := Try.zeroValue183

variable {α : Type} [Inhabited α]
/-- the elements of two ranges of n, from a and from b on, have changed places -/
def SwapR (d d' : Array α) (a b n : Nat) : Prop :=
  d'.size = d.size ∧ ∀ j : Nat, d'[j]! = if a ≤ j ∧ j < a + n then d[j + (b - a)]! else if b ≤ j ∧ j < b + n then d[j - (b - a)]! else d[j]!
theorem SwapR.zero (d : Array α) (a b : Nat) : SwapR d d a b 0 :=
  ⟨rfl, fun j => by rw [if_neg (by omega), if_neg (by omega)]⟩
theorem SwapR.step {d d' : Array α} {a b i : Nat} (h : SwapR d d' a b i) (hab : a + i < b) (hb : b + i < d.size) : SwapR d (swp d' (a + i) (b + i)) a b (i + 1) := by
  refine ⟨by rw [swp_size]; exact h.1, fun j => ?_⟩
  rw [swp_get d' (by rw [h.1]; omega) (by rw [h.1]; exact hb) j]
  by_cases h1 : j = b + i
  · subst h1
    rw [if_pos rfl, h.2 (a + i), if_neg (by omega), if_neg (by omega), if_neg (by omega), if_pos (by omega)]
    congr 1; omega
  · rw [if_neg h1]
    by_cases h2 : j = a + i
    · subst h2
      rw [if_pos rfl, h.2 (b + i), if_neg (by omega), if_neg (by omega), if_pos (by omega)]
      congr 1; omega
    · rw [if_neg h2, h.2 j]
      by_cases h3 : a ≤ j ∧ j < a + i
      · rw [if_pos h3, if_pos (by omega)]
      · by_cases h4 : b ≤ j ∧ j < b + i
        · rw [if_neg h3, if_pos h4, if_neg (by omega), if_pos (by omega)]
        · rw [if_neg h3, if_neg h4, if_neg (by omega), if_neg (by omega)]

set_option maxHeartbeats 4000000 in
set_option maxRecDepth 1000000 in
theorem swapRange_any {P : Program} {k : Nat} (L : SL P k) (enc : α → List Value) (g : Nat) (cb : Array Value) (blk off cap a b n : Nat) (d0 d : Array α) (w0 w : World)
    (R : RowK enc k w0 blk off d0) (hs : d0.size = d.size) (S : SWK enc k w0 blk off d w) (hab : a + n ≤ b) (hb : b + n ≤ d.size) (hsz : d.size < 4611686018427387904) :
    Calls P 189 #[.slice (some ⟨blk, off, none⟩) d.size cap, .int .i64 a, .int .i64 b, .int .i64 n, .func (.func g) #[] cb] w fun e w' => e = .returned (.tuple #[]) ∧ ∃ d', SwapR d d' a b n ∧ SWK enc k w0 blk off d' w' := by
  obtain ⟨mixed, FG, _, _, _, aE, zE, t0, a0, z0, v0, ti, ai, zi, vi, tb, ab, zb, vb, ts, al, zs, vs, tf, af, zf, vf, tu, au, zu, vu⟩ := L
  have S0 : Aside (SWK enc k w0 blk off d w) := S
  clear S
  go_enter FG, Try.ntmps189
  go_wp2
  go_loopg [10] n (fun kx s10 wr => ∃ (i : Nat) (dk : Array α), s10 = .int .i64 i ∧ i ≤ n ∧ n - i ≤ kx ∧ dk.size = d.size ∧ Aside (SWK enc k w0 blk off dk wr) ∧ Hid (SwapR d dk a b i))
  case atStart => exact ⟨0, d, rfl, by omega, by omega, rfl, S0, SwapR.zero d a b⟩
  case round =>
    clear S0
    obtain ⟨i, dk, rfl, hi, hkx, hds, S1, HE⟩ := hrel
    by_cases hlt : i < n
    · have hltz : (i : Int) < (n : Int) := by omega
      go_wp2_with fail
      have ea44 : ((a : Int) + (i : Int)).toNat = a + i := by omega
      have pa44 : (0 : Int) ≤ (a : Int) + (i : Int) := by omega
      have ba44 : (a : Int) + (i : Int) < (d.size : Int) := by omega
      have ra44 : IntKind.i64.wrap ((a : Int) + (i : Int)) = (a : Int) + (i : Int) := by rw [IntKind.wrap_i64]; omega
      have ec44 : ((b : Int) + (i : Int)).toNat = b + i := by omega
      have pc44 : (0 : Int) ≤ (b : Int) + (i : Int) := by omega
      have bc44 : (b : Int) + (i : Int) < (d.size : Int) := by omega
      have rc44 : IntKind.i64.wrap ((b : Int) + (i : Int)) = (b : Int) + (i : Int) := by rw [IntKind.wrap_i64]; omega
      have S2 : Aside (SWK enc k w0 blk off (swp dk (a + i) (b + i)) ((wr.drew.setCells blk (off + (a + i) * k) (enc dk[b + i]!)).setCells blk (off + (b + i) * k) (enc dk[a + i]!))) := S1.out.swapped R (a + i) (b + i) (by omega) (by omega)
      have l44a := S1.out.ld1 R (by omega) P (a + i) (by omega)
      have l44b := S1.out.ld1 R (by omega) P (b + i) (by omega)
      have s44a := S1.out.st1 R (by omega) P (a + i) (by omega) dk[b + i]!
      have s44b := S1.out.st2 R (by omega) P (a + i) (b + i) (by omega) (by omega) dk[b + i]! dk[a + i]!
      have n44a : (enc dk[a + i]!).length = k := R.hk _
      have n44b : (enc dk[b + i]!).length = k := R.hk _
      generalize enc dk[a + i]! = cI44 at S2 l44a s44b n44a
      generalize enc dk[b + i]! = cJ44 at S2 l44b s44a s44b n44b
      clear S1
      go_wp2_with fail
      go_big_region_o
      clear l44a l44b s44a s44b
      generalize (wr.drew.setCells blk (off + (a + i) * k) cJ44).setCells blk (off + (b + i) * k) cI44 = w2 at S2 ⊢
      go_wp2
      go_roundg (n - (i + 1))
      case measure => omega
      case rel => exact ⟨i + 1, swp dk (a + i) (b + i), by go_num, by omega, by omega, by rw [size_swp]; exact hds, S2, HE.out.step (by omega) (by omega)⟩
    · have hltz : ¬ (i : Int) < (n : Int) := by omega
      go_wp2
      go_end0
      obtain rfl : i = n := by omega
      exact ⟨rfl, dk, HE.out, S1.out⟩
end Go.Proofs.Ytdoemgccmjddcaa.So
