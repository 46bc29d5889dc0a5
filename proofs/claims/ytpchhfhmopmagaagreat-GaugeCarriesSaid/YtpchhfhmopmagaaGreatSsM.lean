/- Lists in the order of a key, equals in their places: two that are sorted and hold, for each key, the same elements in the same order, are one list. Merging two runs by one rotation and two smaller merges. slices.SortStableFunc's family at classes: the facts that the walks want of a program, at elements of k cells (k a variable: so that no load is opened); swapRange. slices.SortStableFunc's family at classes: rotate. Segments of a row; what a rotation, a merge, an insertion sort do to them. Go's insertion sort keeps equals in their order; blocks that are sorted, merged two by two. slices.SortStableFunc's family at classes: symMerge, a first run of one element. slices.SortStableFunc's family at classes: symMerge, a second run of one element. slices.SortStableFunc's family at classes: symMerge, whole. slices.SortStableFunc's family at classes: symMerge by induction; the blocks, merged two by two. slices.SortStableFunc at classes: the comparing closure of class.Sorted, the insertion sort off the shelf, the whole. slices.Values over classes: the iterator. slices.AppendSeq(nil, slices.Values(l)) over classes; slices.Collect. class.Sorted: the list sorted by id, equals in their places. class.Sorted: the walk. class.Sorted: its contract. class.Find and the reference's: the first class of an id. class.Find. ref.Sorted: insertion behind all that are not greater. ref.SameAll of a list with itself; the law ClassSorts. -/
import Derived.Lib.Hide
import Derived.Test.YtpchhfhmopmagaaGreatChecked
import Derived.Shelf.SlSortCmp.KitK
import Derived.Sort.LotA
import Derived.Sort.WalkB2
import Derived.Sort.WalkB12
import Derived.Deep.LoopGhost
import Derived.Shelf.SlSortCmp.Insertion
import Derived.Deep.DeepCutAuto
import Derived.Shelf.Lay
import Derived.Test.YtpchhfhmopmagaaGreatClM
import Derived.Shelf.SlSortCmp.InsertionK
import Derived.Shelf.SlGeneric
import Derived.Ground.SlsfProg
import Derived.Handy
import Derived.RangeFuncBox
import Derived.RangeFuncNested
import Derived.RangeFuncLeaves
import Derived.Shelf.Abstract
import Derived.WalkKit
import Derived.OwnWalkIn
import Derived.TacticsInMore
import Derived.LoopNIn
import Derived.LoopIn
import Derived.Maps.AppendAt
import Derived.Deep.AppendLies
import Derived.BigQuiet
import Derived.Deep.CutBlock
import Derived.Laws.AppendOwnNone
set_option linter.unusedVariables false
set_option linter.unusedSimpArgs false
/- Lists in the order of a key, equals in their places: two that are sorted and hold, for each key, the same elements in the same order, are one list. Merging two runs by one rotation and two smaller merges. -/
namespace Go.Proofs.YtpchhfhmopmagaaGreat.So
variable {α : Type} {key : α → Int}

/-- the same elements, those of one key in their order -/
structure Ren (key : α → Int) (l m : List α) : Prop where
  len : l.length = m.length
  flt : ∀ k, l.filter (fun x => key x == k) = m.filter (fun x => key x == k)
def Srt (key : α → Int) (l : List α) : Prop := l.Pairwise (fun a b => key a ≤ key b)

theorem Ren.refl (l : List α) : Ren key l l := ⟨rfl, fun _ => rfl⟩
theorem Ren.symm {l m : List α} (h : Ren key l m) : Ren key m l := ⟨h.len.symm, fun k => (h.flt k).symm⟩
theorem Ren.trans {l m n : List α} (h : Ren key l m) (h' : Ren key m n) : Ren key l n := ⟨h.len.trans h'.len, fun k => (h.flt k).trans (h'.flt k)⟩
theorem Ren.append {a b c d : List α} (h : Ren key a b) (h' : Ren key c d) : Ren key (a ++ c) (b ++ d) :=
  ⟨by rw [List.length_append, List.length_append, h.len, h'.len], fun k => by rw [List.filter_append, List.filter_append, h.flt k, h'.flt k]⟩
theorem Ren.mem {l m : List α} (h : Ren key l m) {x : α} (hx : x ∈ l) : x ∈ m := by
  have h1 : x ∈ l.filter (fun y => key y == key x) := List.mem_filter.2 ⟨hx, by simp⟩
  rw [h.flt (key x)] at h1
  exact (List.mem_filter.1 h1).1
theorem Ren.rotate {u v : List α} (h : ∀ a ∈ u, ∀ b ∈ v, key a ≠ key b) : Ren key (u ++ v) (v ++ u) := by
  refine ⟨by simp [Nat.add_comm], fun k => ?_⟩
  rw [List.filter_append, List.filter_append]
  by_cases hu : ∃ a ∈ u, key a = k
  · obtain ⟨a, ha, rfl⟩ := hu
    have : v.filter (fun x => key x == key a) = [] := List.filter_eq_nil_iff.2 fun b hb => by
      have := h a ha b hb
      simp; exact fun e => this e.symm
    rw [this]; simp
  · have : u.filter (fun x => key x == k) = [] := List.filter_eq_nil_iff.2 fun a ha => by
      simp; exact fun e => hu ⟨a, ha, e⟩
    rw [this]; simp

theorem Srt.append {u v : List α} (hu : Srt key u) (hv : Srt key v) (h : ∀ a ∈ u, ∀ b ∈ v, key a ≤ key b) : Srt key (u ++ v) := List.pairwise_append.2 ⟨hu, hv, h⟩
theorem Srt.left {u v : List α} (h : Srt key (u ++ v)) : Srt key u := (List.pairwise_append.1 h).1
theorem Srt.right {u v : List α} (h : Srt key (u ++ v)) : Srt key v := (List.pairwise_append.1 h).2.1
theorem Srt.cross {u v : List α} (h : Srt key (u ++ v)) : ∀ a ∈ u, ∀ b ∈ v, key a ≤ key b := (List.pairwise_append.1 h).2.2
theorem Srt.one (x : α) : Srt key [x] := List.pairwise_singleton ..
theorem Srt.nil : Srt key ([] : List α) := List.Pairwise.nil

/-- THE ONLY ONE -/
theorem uniq : ∀ {l m : List α}, Srt key l → Srt key m → Ren key l m → l = m
  | [], m, _, _, h => by
    have := h.len
    exact (List.eq_nil_of_length_eq_zero this.symm).symm
  | x :: t, [], _, _, h => by have := h.len; simp at this
  | x :: t, y :: s, hl, hm, h => by
    have hx : key x ≤ key y := by
      have := h.symm.mem (x := y) (List.mem_cons_self ..)
      rcases List.mem_cons.1 this with e | e
      · rw [e]; exact Int.le_refl _
      · exact (List.pairwise_cons.1 hl).1 y e
    have hy : key y ≤ key x := by
      have := h.mem (x := x) (List.mem_cons_self ..)
      rcases List.mem_cons.1 this with e | e
      · rw [e]; exact Int.le_refl _
      · exact (List.pairwise_cons.1 hm).1 x e
    have hk : key y = key x := by omega
    have hf := h.flt (key x)
    rw [List.filter_cons_of_pos (by simp), List.filter_cons_of_pos (by simp [hk])] at hf
    injection hf with h1 h2
    subst h1
    have : t = s := uniq (List.pairwise_cons.1 hl).2 (List.pairwise_cons.1 hm).2 ⟨by simpa using h.len, fun k => by
      by_cases e : key x = k
      · subst e; exact h2
      · have h3 := h.flt k
        rwa [List.filter_cons_of_neg (by simp [e]), List.filter_cons_of_neg (by simp [e])] at h3⟩
    rw [this]

/-- one more, behind all that are not greater -/
theorem ins_ok {u v : List α} {x : α} (hs : Srt key (u ++ v)) (hu : ∀ a ∈ u, key a ≤ key x) (hv : ∀ b ∈ v, key x < key b) : Srt key (u ++ x :: v) ∧ Ren key (u ++ v ++ [x]) (u ++ x :: v) := by
  refine ⟨?_, ?_⟩
  · refine Srt.append hs.left (List.pairwise_cons.2 ⟨fun b hb => Int.le_of_lt (hv b hb), hs.right⟩) fun a ha b hb => ?_
    rcases List.mem_cons.1 hb with e | e
    · subst e; exact hu a ha
    · exact hs.cross a ha b e
  · rw [List.append_assoc]
    have := Ren.rotate (key := key) (u := v) (v := [x]) (fun a ha b hb => by rw [List.mem_singleton.1 hb]; have := hv a ha; omega)
    exact (Ren.refl u).append this

/-- MERGING: A = A1 ++ A2 and B = B1 ++ B2, cut so that what comes first is not greater -/
theorem merge_cut {A1 A2 B1 B2 C D : List α} (hA : Srt key (A1 ++ A2)) (hB : Srt key (B1 ++ B2)) (h12 : ∀ a ∈ A1, ∀ b ∈ B2, key a ≤ key b) (h21 : ∀ b ∈ B1, ∀ a ∈ A2, key b < key a)
    (hC : Srt key C) (hD : Srt key D) (rC : Ren key (A1 ++ B1) C) (rD : Ren key (A2 ++ B2) D) : Srt key (C ++ D) ∧ Ren key ((A1 ++ A2) ++ (B1 ++ B2)) (C ++ D) := by
  refine ⟨hC.append hD fun a ha b hb => ?_, ?_⟩
  · have ha' := List.mem_append.1 (rC.symm.mem ha)
    have hb' := List.mem_append.1 (rD.symm.mem hb)
    rcases ha' with ha' | ha' <;> rcases hb' with hb' | hb'
    · exact hA.cross a ha' b hb'
    · exact h12 a ha' b hb'
    · exact Int.le_of_lt (h21 a ha' b hb')
    · exact hB.cross a ha' b hb'
  · have hr := Ren.rotate (key := key) (u := A2) (v := B1) (fun a ha b hb => by have := h21 b hb a ha; omega)
    have h1 : Ren key (A1 ++ (A2 ++ B1) ++ B2) (A1 ++ (B1 ++ A2) ++ B2) := ((Ren.refl A1).append hr).append (Ren.refl B2)
    have e1 : (A1 ++ A2) ++ (B1 ++ B2) = A1 ++ (A2 ++ B1) ++ B2 := by simp
    have e2 : A1 ++ (B1 ++ A2) ++ B2 = (A1 ++ B1) ++ (A2 ++ B2) := by simp
    rw [e1]
    exact h1.trans (e2 ▸ rC.append rD)
end Go.Proofs.YtpchhfhmopmagaaGreat.So

/- slices.SortStableFunc's family at classes: the facts that the walks want of a program, at elements of k cells (k a variable: so that no load is opened); swapRange. -/
namespace Go.Proofs.YtpchhfhmopmagaaGreat.So
open Go.Shelf Go.RowKit Go.Lib Go.Sort

/-- a program that bears these bodies, with the element's type of k cells -/
structure SL (P : Program) (k : Nat) : Prop where
  mixed : P.follows .mixedOrders = true
  swapR : P.funcs[288]? = some Tryz.f288
  rot : P.funcs[281]? = some Tryz.f281
  sym : P.funcs[275]? = some Tryz.f275
  stab : P.funcs[262]? = some Tryz.f262
  aE : ∀ w, (isAgg 84).run P w = .ok true w
  zE : ∀ w, (Go.sizeOf 84).run P w = .ok k w
  t0 : P.underlying 0 = some (TypeDesc.tuple #[])
  a0 : ∀ w, (isAgg 0).run P w = .ok false w
  z0 : ∀ w, (Go.sizeOf 0).run P w = .ok 1 w
  v0 : ∀ w, (zeroValue 0).run P w = .ok (Value.tuple #[]) w
  ti : P.underlying 3 = some (TypeDesc.int IntKind.i64)
  ai : ∀ w, (isAgg 3).run P w = .ok false w
  zi : ∀ w, (Go.sizeOf 3).run P w = .ok 1 w
  vi : ∀ w, (zeroValue 3).run P w = .ok (Value.int IntKind.i64 0) w
  tb : P.underlying 4 = some (TypeDesc.bool)
  ab : ∀ w, (isAgg 4).run P w = .ok false w
  zb : ∀ w, (Go.sizeOf 4).run P w = .ok 1 w
  vb : ∀ w, (zeroValue 4).run P w = .ok (Value.bool false) w
  ts : P.underlying 22 = some (TypeDesc.slice 84)
  al : ∀ w, (isAgg 22).run P w = .ok false w
  zs : ∀ w, (Go.sizeOf 22).run P w = .ok 1 w
  vs : ∀ w, (zeroValue 22).run P w = .ok (Value.slice none 0 0) w
  tf : P.underlying 245 = some (TypeDesc.func #[84, 84] #[3] false)
  af : ∀ w, (isAgg 245).run P w = .ok false w
  zf : ∀ w, (Go.sizeOf 245).run P w = .ok 1 w
  vf : ∀ w, (zeroValue 245).run P w = .ok (Value.nilFunc) w
  tu : P.underlying 290 = some (TypeDesc.int IntKind.u64)
  au : ∀ w, (isAgg 290).run P w = .ok false w
  zu : ∀ w, (Go.sizeOf 290).run P w = .ok 1 w
  vu : ∀ w, (zeroValue 290).run P w = .ok (Value.int IntKind.u64 0) w

theorem sl : SL Tryz.prog 11 where
  mixed := by kernel_rfl
  swapR := Tryz.func288
  rot := Tryz.func281
  sym := Tryz.func275
  stab := Tryz.func262
  aE := Tryz.isAgg84
  zE := Tryz.sizeOf84
  t0 := Tryz.underlying0
  a0 := Tryz.isAgg0
  z0 := Tryz.sizeOf0
  v0 := Tryz.zeroValue0
  ti := Tryz.underlying3
  ai := Tryz.isAgg3
  zi := Tryz.sizeOf3
  vi := Tryz.zeroValue3
  tb := Tryz.underlying4
  ab := Tryz.isAgg4
  zb := Tryz.sizeOf4
  vb := Tryz.zeroValue4
  ts := Tryz.underlying22
  al := Tryz.isAgg22
  zs := Tryz.sizeOf22
  vs := Tryz.zeroValue22
  tf := Tryz.underlying245
  af := Tryz.isAgg245
  zf := Tryz.sizeOf245
  vf := Tryz.zeroValue245
  tu := Tryz.underlying290
  au := Tryz.isAgg290
  zu := Tryz.sizeOf290
  vu := Tryz.zeroValue290

variable {α : Type} [Inhabited α]
/-- the elements of two ranges of n, from a and from b on, have changed places -/
def SwapR (d d' : Array α) (a b n : Nat) : Prop :=
  d'.size = d.size ∧ ∀ j : Nat, d'[j]! = if a ≤ j ∧ j < a + n then d[j + (b - a)]! else if b ≤ j ∧ j < b + n then d[j - (b - a)]! else d[j]!
theorem SwapR.zero (d : Array α) (a b : Nat) : SwapR d d a b 0 :=
  ⟨rfl, fun j => by rw [if_neg (by omega), if_neg (by omega)]⟩
theorem SwapR.step {d d' : Array α} {a b i : Nat} (h : SwapR d d' a b i) (hab : a + i < b) (hb : b + i < d.size) : SwapR d (swp d' (a + i) (b + i)) a b (i + 1) := by
  refine ⟨by rw [swp_size]; exact h.1, fun j => ?_⟩
  rw [swp_get d' (by rw [h.1]; omega) (by rw [h.1]; exact hb) j]
  by_cases h1 : j = b + i
  · subst h1
    rw [if_pos rfl, h.2 (a + i), if_neg (by omega), if_neg (by omega), if_neg (by omega), if_pos (by omega)]
    congr 1; omega
  · rw [if_neg h1]
    by_cases h2 : j = a + i
    · subst h2
      rw [if_pos rfl, h.2 (b + i), if_neg (by omega), if_neg (by omega), if_pos (by omega)]
      congr 1; omega
    · rw [if_neg h2, h.2 j]
      by_cases h3 : a ≤ j ∧ j < a + i
      · rw [if_pos h3, if_pos (by omega)]
      · by_cases h4 : b ≤ j ∧ j < b + i
        · rw [if_neg h3, if_pos h4, if_neg (by omega), if_pos (by omega)]
        · rw [if_neg h3, if_neg h4, if_neg (by omega), if_neg (by omega)]

set_option maxHeartbeats 4000000 in
set_option maxRecDepth 1000000 in
theorem swapRange_any {P : Program} {k : Nat} (L : SL P k) (enc : α → List Value) (g : Nat) (cb : Array Value) (blk off cap a b n : Nat) (d0 d : Array α) (w0 w : World)
    (R : RowK enc k w0 blk off d0) (hs : d0.size = d.size) (S : SWK enc k w0 blk off d w) (hab : a + n ≤ b) (hb : b + n ≤ d.size) (hsz : d.size < 4611686018427387904) :
    Calls P 288 #[.slice (some ⟨blk, off, none⟩) d.size cap, .int .i64 a, .int .i64 b, .int .i64 n, .func (.func g) #[] cb] w fun e w' => e = .returned (.tuple #[]) ∧ ∃ d', SwapR d d' a b n ∧ SWK enc k w0 blk off d' w' := by
  obtain ⟨mixed, FG, _, _, _, aE, zE, t0, a0, z0, v0, ti, ai, zi, vi, tb, ab, zb, vb, ts, al, zs, vs, tf, af, zf, vf, tu, au, zu, vu⟩ := L
  have S0 : Aside (SWK enc k w0 blk off d w) := S
  clear S
  go_enter FG, Tryz.ntmps288
  go_wp2
  go_loopg [10] n (fun kx s10 wr => ∃ (i : Nat) (dk : Array α), s10 = .int .i64 i ∧ i ≤ n ∧ n - i ≤ kx ∧ dk.size = d.size ∧ Aside (SWK enc k w0 blk off dk wr) ∧ Hid (SwapR d dk a b i))
  case atStart => exact ⟨0, d, rfl, by omega, by omega, rfl, S0, SwapR.zero d a b⟩
  case round =>
    clear S0
    obtain ⟨i, dk, rfl, hi, hkx, hds, S1, HE⟩ := hrel
    by_cases hlt : i < n
    · have hltz : (i : Int) < (n : Int) := by omega
      go_wp2_with fail
      have ea44 : ((a : Int) + (i : Int)).toNat = a + i := by omega
      have pa44 : (0 : Int) ≤ (a : Int) + (i : Int) := by omega
      have ba44 : (a : Int) + (i : Int) < (d.size : Int) := by omega
      have ra44 : IntKind.i64.wrap ((a : Int) + (i : Int)) = (a : Int) + (i : Int) := by rw [IntKind.wrap_i64]; omega
      have ec44 : ((b : Int) + (i : Int)).toNat = b + i := by omega
      have pc44 : (0 : Int) ≤ (b : Int) + (i : Int) := by omega
      have bc44 : (b : Int) + (i : Int) < (d.size : Int) := by omega
      have rc44 : IntKind.i64.wrap ((b : Int) + (i : Int)) = (b : Int) + (i : Int) := by rw [IntKind.wrap_i64]; omega
      have S2 : Aside (SWK enc k w0 blk off (swp dk (a + i) (b + i)) ((wr.drew.setCells blk (off + (a + i) * k) (enc dk[b + i]!)).setCells blk (off + (b + i) * k) (enc dk[a + i]!))) := S1.out.swapped R (a + i) (b + i) (by omega) (by omega)
      have l44a := S1.out.ld1 R (by omega) P (a + i) (by omega)
      have l44b := S1.out.ld1 R (by omega) P (b + i) (by omega)
      have s44a := S1.out.st1 R (by omega) P (a + i) (by omega) dk[b + i]!
      have s44b := S1.out.st2 R (by omega) P (a + i) (b + i) (by omega) (by omega) dk[b + i]! dk[a + i]!
      have n44a : (enc dk[a + i]!).length = k := R.hk _
      have n44b : (enc dk[b + i]!).length = k := R.hk _
      generalize enc dk[a + i]! = cI44 at S2 l44a s44b n44a
      generalize enc dk[b + i]! = cJ44 at S2 l44b s44a s44b n44b
      clear S1
      go_wp2_with fail
      go_big_region_o
      clear l44a l44b s44a s44b
      generalize (wr.drew.setCells blk (off + (a + i) * k) cJ44).setCells blk (off + (b + i) * k) cI44 = w2 at S2 ⊢
      go_wp2
      go_roundg (n - (i + 1))
      case measure => omega
      case rel => exact ⟨i + 1, swp dk (a + i) (b + i), by go_num, by omega, by omega, by rw [size_swp]; exact hds, S2, HE.out.step (by omega) (by omega)⟩
    · have hltz : ¬ (i : Int) < (n : Int) := by omega
      go_wp2
      go_end0
      obtain rfl : i = n := by omega
      exact ⟨rfl, dk, HE.out, S1.out⟩
end Go.Proofs.YtpchhfhmopmagaaGreat.So

/- slices.SortStableFunc's family at classes: rotate. -/
namespace Go.Proofs.YtpchhfhmopmagaaGreat.So
open Go.Shelf Go.RowKit Go.Lib Go.Sort
variable {α : Type} [Inhabited α]

theorem swapRange_z {P : Program} {k : Nat} (L : SL P k) (enc : α → List Value) (g : Nat) (cb : Array Value) (blk off cap sz a b n : Nat) (d0 d : Array α) (w0 w : World)
    (R : RowK enc k w0 blk off d0) (hs : d0.size = sz) (hd : d.size = sz) (S : SWK enc k w0 blk off d w) (hab : a + n ≤ b) (hb : b + n ≤ sz) (hsz : sz < 4611686018427387904) (az bz nz : Int) (ea : az = a) (eb : bz = b) (en : nz = n) :
    Calls P 288 #[.slice (some ⟨blk, off, none⟩) sz cap, .int .i64 az, .int .i64 bz, .int .i64 nz, .func (.func g) #[] cb] w fun e w' => e = .returned (.tuple #[]) ∧ ∃ d', SwapR d d' a b n ∧ SWK enc k w0 blk off d' w' := by
  subst ea eb en hd
  exact swapRange_any L enc g cb blk off cap a b n d0 d w0 w R hs S hab hb hsz

/-- the elements from a to m and those from m to b have changed places -/
def RotR (d d' : Array α) (a m b : Nat) : Prop :=
  d'.size = d.size ∧ ∀ j : Nat, d'[j]! = if a ≤ j ∧ j < a + (b - m) then d[j + (m - a)]! else if a + (b - m) ≤ j ∧ j < b then d[j - (b - m)]! else d[j]!
theorem rot_gt {d d1 d' : Array α} {m i j : Nat} (hi : i ≤ m) (hij : j < i) (h1 : SwapR d d1 (m - i) m j) (h2 : RotR d1 d' (m - (i - j)) m (m + j)) : RotR d d' (m - i) m (m + j) := by
  refine ⟨h2.1.trans h1.1, fun t => ?_⟩
  rw [h2.2 t]
  split
  · rw [h1.2]
    (repeat' split) <;> first | (exfalso; omega) | rfl | (congr 1; omega)
  · split
    · rw [h1.2]
      (repeat' split) <;> first | (exfalso; omega) | rfl | (congr 1; omega)
    · rw [h1.2]
      (repeat' split) <;> first | (exfalso; omega) | rfl | (congr 1; omega)
theorem rot_lt {d d1 d' : Array α} {m i j : Nat} (hi : i ≤ m) (hij : i < j) (h1 : SwapR d d1 (m - i) (m + j - i) i) (h2 : RotR d1 d' (m - i) m (m + (j - i))) : RotR d d' (m - i) m (m + j) := by
  refine ⟨h2.1.trans h1.1, fun t => ?_⟩
  rw [h2.2 t]
  split
  · rw [h1.2]
    (repeat' split) <;> first | (exfalso; omega) | rfl | (congr 1; omega)
  · split
    · rw [h1.2]
      (repeat' split) <;> first | (exfalso; omega) | rfl | (congr 1; omega)
    · rw [h1.2]
      (repeat' split) <;> first | (exfalso; omega) | rfl | (congr 1; omega)
theorem rot_eq {d d1 : Array α} {m i : Nat} (hi : i ≤ m) (h1 : SwapR d d1 (m - i) m i) : RotR d d1 (m - i) m (m + i) := by
  refine ⟨h1.1, fun t => ?_⟩
  rw [h1.2]
  (repeat' split) <;> first | (exfalso; omega) | rfl | (congr 1; omega)

set_option maxHeartbeats 4000000 in
set_option maxRecDepth 1000000 in
theorem rotate_any {P : Program} {k : Nat} (L : SL P k) (enc : α → List Value) (g : Nat) (cb : Array Value) (blk off cap sz a m b : Nat) (d0 d : Array α) (w0 w : World)
    (R : RowK enc k w0 blk off d0) (hs : d0.size = sz) (hd : d.size = sz) (S : SWK enc k w0 blk off d w) (ham : a < m) (hmb : m < b) (hb : b ≤ sz) (hsz : sz < 4611686018427387904) :
    Calls P 281 #[.slice (some ⟨blk, off, none⟩) sz cap, .int .i64 a, .int .i64 m, .int .i64 b, .func (.func g) #[] cb] w fun e w' => e = .returned (.tuple #[]) ∧ ∃ d', RotR d d' a m b ∧ SWK enc k w0 blk off d' w' := by
  have hc := fun (sa sb sn : Nat) (dk : Array α) (wr : World) => swapRange_z L enc g cb blk off cap sz sa sb sn d0 dk w0 wr R hs
  obtain ⟨mixed, FS, FG, _, _, aE, zE, t0, a0, z0, v0, ti, ai, zi, vi, tb, ab, zb, vb, ts, al, zs, vs, tf, af, zf, vf, tu, au, zu, vu⟩ := L
  have es : ∀ args w, (callFunc 288 args).run P w = .ok (.enter 288 args) w := enters_of FS (by kernel_rfl) rfl
  have HC : Aside _ := hc
  have S0 : Aside (SWK enc k w0 blk off d w) := S
  clear S hc FS
  go_enter FG, Tryz.ntmps281
  go_wp2
  go_loopg [10, 11] (m - a + (b - m)) (fun kx s10 s11 wr => ∃ (i j : Nat) (dk : Array α), s10 = .int .i64 i ∧ s11 = .int .i64 j ∧ 0 < i ∧ 0 < j ∧ i ≤ m ∧ m + j ≤ sz ∧ i + j ≤ kx ∧ dk.size = sz ∧ Aside (SWK enc k w0 blk off dk wr) ∧ Hid (∀ d', RotR dk d' (m - i) m (m + j) → RotR d d' a m b))
  case atStart =>
    exact ⟨m - a, b - m, d, by go_num, by go_num, by omega, by omega, by omega, by omega, by omega, hd, S0, fun d' h => by rwa [show m - (m - a) = a by omega, show m + (b - m) = b by omega] at h⟩
  case round =>
    clear S0
    obtain ⟨i, j, dk, rfl, rfl, hi, hj, him, hjm, hkx, hds, S1, HE⟩ := hrel
    rcases Nat.lt_trichotomy i j with hlt | heq | hgt
    · have h1 : ¬ (i : Int) = (j : Int) := by omega
      have h2 : ¬ (j : Int) < (i : Int) := by omega
      have hcall := HC.out (m - i) (m + j - i) i dk wr hds S1.out (by omega) (by omega) hsz ((m : Int) - i) ((m : Int) + j - i) i (by omega) (by omega) rfl
      clear S1
      go_wp2_with (go_at_fn 288; refine hcall.mono ?_; rintro e w1 ⟨rfl, d1, H1, S3⟩)
      go_roundg (i + (j - i))
      case measure => omega
      case rel => exact ⟨i, j - i, d1, rfl, by go_num, hi, by omega, him, by omega, by omega, H1.1.trans hds, S3, fun d' h => HE.out d' (rot_lt him hlt H1 h)⟩
    · subst heq
      have hcall := HC.out (m - i) m i dk wr hds S1.out (by omega) (by omega) hsz ((m : Int) - i) m i (by omega) rfl rfl
      clear S1
      go_wp2_with (go_at_fn 288; refine hcall.mono ?_; rintro e w1 ⟨rfl, d1, H1, S3⟩)
      go_end0
      exact ⟨rfl, d1, HE.out d1 (rot_eq him H1), S3⟩
    · have h1 : ¬ (i : Int) = (j : Int) := by omega
      have h2 : (j : Int) < (i : Int) := by omega
      have hcall := HC.out (m - i) m j dk wr hds S1.out (by omega) (by omega) hsz ((m : Int) - i) m j (by omega) rfl rfl
      clear S1
      go_wp2_with (go_at_fn 288; refine hcall.mono ?_; rintro e w1 ⟨rfl, d1, H1, S3⟩)
      go_roundg (i - j + j)
      case measure => omega
      case rel => exact ⟨i - j, j, d1, by go_num, rfl, by omega, hj, by omega, hjm, by omega, H1.1.trans hds, S3, fun d' h => HE.out d' (rot_gt him hgt H1 h)⟩
end Go.Proofs.YtpchhfhmopmagaaGreat.So

/- Segments of a row; what a rotation, a merge, an insertion sort do to them. -/
namespace Go.Proofs.YtpchhfhmopmagaaGreat.So
open Go.Sort
variable {α : Type} [Inhabited α] {key : α → Int}

/-- the elements from a to b -/
def sg (d : Array α) (a b : Nat) : List α := (List.range (b - a)).map fun i => d[a + i]!
theorem sg_len (d : Array α) (a b : Nat) : (sg d a b).length = b - a := by simp [sg]
theorem sg_get (d : Array α) (a b i : Nat) (h : i < b - a) : (sg d a b)[i]? = some d[a + i]! := by simp [sg, h]
theorem sg_nil (d : Array α) (a b : Nat) (h : b ≤ a) : sg d a b = [] := by simp [sg, Nat.sub_eq_zero_of_le h]
theorem sg_one (d : Array α) (a : Nat) : sg d a (a + 1) = [d[a]!] := by simp [sg, List.range_one]
theorem sg_app (d : Array α) {a m b : Nat} (h1 : a ≤ m) (h2 : m ≤ b) : sg d a m ++ sg d m b = sg d a b := by
  unfold sg
  rw [show b - a = (m - a) + (b - m) by omega, List.range_add, List.map_append, List.map_map]
  congr 1
  refine List.map_congr_left fun i _ => ?_
  show d[m + i]! = d[a + (m - a + i)]!
  congr 1; omega
theorem sg_shift {d d' : Array α} {a b a' b' : Nat} (hl : b - a = b' - a') (h : ∀ i, i < b - a → d[a + i]! = d'[a' + i]!) : sg d a b = sg d' a' b' := by
  unfold sg
  rw [← hl]
  exact List.map_congr_left fun i hi => h i (List.mem_range.1 hi)
theorem sg_same {d d' : Array α} {a b : Nat} (h : ∀ j, a ≤ j → j < b → d[j]! = d'[j]!) : sg d a b = sg d' a b := sg_shift rfl fun i hi => h _ (by omega) (by omega)
theorem sg_mem {d : Array α} {a b : Nat} {x : α} : x ∈ sg d a b ↔ ∃ j, a ≤ j ∧ j < b ∧ d[j]! = x := by
  unfold sg
  simp only [List.mem_map, List.mem_range]
  constructor
  · rintro ⟨i, hi, rfl⟩; exact ⟨a + i, by omega, by omega, rfl⟩
  · rintro ⟨j, h1, h2, rfl⟩; exact ⟨j - a, by omega, by rw [show a + (j - a) = j by omega]⟩
theorem srt_sg {d : Array α} {a b : Nat} (h : ∀ i j, a ≤ i → i < j → j < b → key d[i]! ≤ key d[j]!) : Srt key (sg d a b) := by
  unfold Srt sg
  rw [List.pairwise_map]
  refine List.Pairwise.imp_of_mem ?_ (List.pairwise_lt_range (n := b - a))
  intro i j hi hj hij
  exact h _ _ (by omega) (by omega) (by have := List.mem_range.1 hj; omega)
theorem srt_le {d : Array α} {a b : Nat} (h : Srt key (sg d a b)) {i j : Nat} (h1 : a ≤ i) (h2 : i ≤ j) (h3 : j < b) : key d[i]! ≤ key d[j]! := by
  by_cases e : i = j
  · subst e; exact Int.le_refl _
  · unfold Srt sg at h
    rw [List.pairwise_map, List.pairwise_iff_getElem] at h
    have := h (i - a) (j - a) (by simp; omega) (by simp; omega) (by omega)
    simp only [List.getElem_range] at this
    rwa [show a + (i - a) = i by omega, show a + (j - a) = j by omega] at this
theorem sg_all (d : Array α) : sg d 0 d.size = d.toList := by
  apply List.ext_getElem?
  intro i
  by_cases h : i < d.size
  · rw [sg_get _ _ _ _ (by omega)]
    simp [h]
  · rw [List.getElem?_eq_none (by rw [sg_len]; omega), List.getElem?_eq_none (by simp; omega)]

/-- what stands behind a rotation -/
theorem RotR.left {d d' : Array α} {a m b : Nat} (h : RotR d d' a m b) (h1 : a ≤ m) (h2 : m ≤ b) : sg d' a (a + (b - m)) = sg d m b :=
  sg_shift (by omega) fun i hi => by rw [h.2 (a + i), if_pos (by omega)]; congr 1; omega
theorem RotR.right {d d' : Array α} {a m b : Nat} (h : RotR d d' a m b) (h1 : a ≤ m) (h2 : m ≤ b) : sg d' (a + (b - m)) b = sg d a m :=
  sg_shift (by omega) fun i hi => by rw [h.2 (a + (b - m) + i), if_neg (by omega), if_pos (by omega)]; congr 1; omega
theorem RotR.out {d d' : Array α} {a m b : Nat} (h : RotR d d' a m b) (h1 : a ≤ m) (h2 : m ≤ b) {j : Nat} (hj : ¬ (a ≤ j ∧ j < b)) : d'[j]! = d[j]! := by
  rw [h.2 j, if_neg (by omega), if_neg (by omega)]
theorem RotR.nothing (d : Array α) (a m b : Nat) (h : a = m ∨ m = b) : RotR d d a m b := by
  refine ⟨rfl, fun j => ?_⟩
  (repeat' split) <;> first | (exfalso; omega) | rfl | (congr 1; omega)

/-- from a to b in order, those of one key as they were; the others untouched -/
structure MerR (key : α → Int) (d d' : Array α) (a b : Nat) : Prop where
  size : d'.size = d.size
  out : ∀ j, ¬ (a ≤ j ∧ j < b) → d'[j]! = d[j]!
  srt : Srt key (sg d' a b)
  ren : Ren key (sg d a b) (sg d' a b)

/-- one element, found its place: it goes before those that are not smaller -/
theorem mer_first {d d' : Array α} {a i b : Nat} (h : RotR d d' a (a + 1) i) (hi : a + 1 ≤ i) (hib : i ≤ b) (hs : Srt key (sg d (a + 1) b))
    (hl : ∀ j, a + 1 ≤ j → j < i → key d[j]! < key d[a]!) (hr : ∀ j, i ≤ j → j < b → key d[a]! ≤ key d[j]!) : MerR key d d' a b := by
  have e0 : sg d' a (a + (i - (a + 1))) = sg d (a + 1) i := h.left (by omega) hi
  have e1 : sg d' (a + (i - (a + 1))) i = sg d a (a + 1) := h.right (by omega) hi
  have e2 : sg d' i b = sg d i b := sg_same fun j h1 h2 => h.out (by omega) hi (by omega)
  have e3 : sg d' a b = sg d (a + 1) i ++ (sg d a (a + 1) ++ sg d i b) := by
    rw [← sg_app d' (m := a + (i - (a + 1))) (by omega) (by omega), ← sg_app d' (a := a + (i - (a + 1))) (m := i) (by omega) hib, e0, e1, e2]
  have e4 : sg d a b = (([] : List α) ++ sg d a (a + 1)) ++ (sg d (a + 1) i ++ sg d i b) := by
    rw [List.nil_append, sg_app d hi hib, sg_app d (by omega) (by omega)]
  have hs' : Srt key (sg d (a + 1) i ++ sg d i b) := by rwa [sg_app d hi hib]
  have := merge_cut (key := key) (A1 := []) (A2 := sg d a (a + 1)) (B1 := sg d (a + 1) i) (B2 := sg d i b) (C := sg d (a + 1) i) (D := sg d a (a + 1) ++ sg d i b)
    (by rw [List.nil_append, sg_one]; exact Srt.one _) hs' (fun _ h => by simp at h)
    (fun b hb a' ha' => by
      rw [sg_one, List.mem_singleton] at ha'
      obtain ⟨j, h1, h2, rfl⟩ := sg_mem.1 hb
      subst ha'; exact hl j h1 h2)
    hs'.left
    (Srt.append (by rw [sg_one]; exact Srt.one _) hs'.right (fun x hx y hy => by
      rw [sg_one, List.mem_singleton] at hx
      obtain ⟨j, h1, h2, rfl⟩ := sg_mem.1 hy
      subst hx; exact hr j h1 h2))
    (Ren.refl _) (Ren.refl _)
  exact ⟨h.1, fun j hj => h.out (by omega) hi (by omega), e3 ▸ this.1, by rw [e3, e4]; exact this.2⟩
theorem mer_last {d d' : Array α} {a i m : Nat} (h : RotR d d' i m (m + 1)) (hai : a ≤ i) (him : i ≤ m) (hs : Srt key (sg d a m))
    (hl : ∀ j, a ≤ j → j < i → key d[j]! ≤ key d[m]!) (hr : ∀ j, i ≤ j → j < m → key d[m]! < key d[j]!) : MerR key d d' a (m + 1) := by
  have e0 : sg d' i (i + (m + 1 - m)) = sg d m (m + 1) := h.left him (by omega)
  have e1 : sg d' (i + (m + 1 - m)) (m + 1) = sg d i m := h.right him (by omega)
  have e2 : sg d' a i = sg d a i := sg_same fun j h1 h2 => h.out him (by omega) (by omega)
  have e3 : sg d' a (m + 1) = (sg d a i ++ sg d m (m + 1)) ++ sg d i m := by
    rw [← sg_app d' (m := i + (m + 1 - m)) (by omega) (by omega), ← sg_app d' (b := i + (m + 1 - m)) (m := i) hai (by omega), e0, e1, e2]
  have e4 : sg d a (m + 1) = (sg d a i ++ sg d i m) ++ (sg d m (m + 1) ++ ([] : List α)) := by
    rw [List.append_nil, sg_app d hai him, sg_app d (by omega) (by omega)]
  have hs' : Srt key (sg d a i ++ sg d i m) := by rwa [sg_app d hai him]
  have := merge_cut (key := key) (A1 := sg d a i) (A2 := sg d i m) (B1 := sg d m (m + 1)) (B2 := []) (C := sg d a i ++ sg d m (m + 1)) (D := sg d i m)
    hs' (by rw [List.append_nil, sg_one]; exact Srt.one _) (fun _ _ _ h => by simp at h)
    (fun b hb a' ha' => by
      rw [sg_one, List.mem_singleton] at hb
      obtain ⟨j, h1, h2, rfl⟩ := sg_mem.1 ha'
      subst hb; exact hr j h1 h2)
    (Srt.append hs'.left (by rw [sg_one]; exact Srt.one _) (fun x hx y hy => by
      rw [sg_one, List.mem_singleton] at hy
      obtain ⟨j, h1, h2, rfl⟩ := sg_mem.1 hx
      subst hy; exact hl j h1 h2))
    hs'.right
    (Ren.refl _) (by rw [List.append_nil]; exact Ren.refl _)
  exact ⟨h.1, fun j hj => h.out him (by omega) (by omega), e3 ▸ this.1, by rw [e3, e4]; exact this.2⟩
/-- a merge is sorted already where one of the two runs is empty -/
theorem mer_nothing {d : Array α} {a m b : Nat} (h1 : Srt key (sg d a m)) (h2 : Srt key (sg d m b)) (h : a = m ∨ m = b) : MerR key d d a b :=
  ⟨rfl, fun _ _ => rfl, by rcases h with rfl | rfl <;> assumption, Ren.refl _⟩
/-- two runs, cut at s and e, the middle ones turned, the halves merged -/
theorem mer_cut {d d1 d2 d3 : Array α} {a s m e b c : Nat} (has : a ≤ s) (hsm : s ≤ m) (hme : m ≤ e) (heb : e ≤ b) (hc : c = s + (e - m))
    (hA : Srt key (sg d a m)) (hB : Srt key (sg d m b)) (h12 : a < s → e < b → key d[s - 1]! ≤ key d[e]!) (h21 : m < e → s < m → key d[e - 1]! < key d[s]!)
    (h1 : RotR d d1 s m e) (h2 : MerR key d1 d2 a c) (h3 : MerR key d2 d3 c b) : MerR key d d3 a b := by
  have q0 : sg d1 a s = sg d a s := sg_same fun j p q => h1.out hsm hme (by omega)
  have q1 : sg d1 s c = sg d m e := by rw [hc]; exact h1.left hsm hme
  have q2 : sg d1 c e = sg d s m := by rw [hc]; exact h1.right hsm hme
  have q3 : sg d1 e b = sg d e b := sg_same fun j p q => h1.out hsm hme (by omega)
  have q4 : sg d1 a c = sg d a s ++ sg d m e := by rw [← sg_app d1 (m := s) has (by omega), q0, q1]
  have q5 : sg d1 c b = sg d s m ++ sg d e b := by rw [← sg_app d1 (m := e) (by omega) heb, q2, q3]
  have q6 : sg d2 c b = sg d1 c b := sg_same fun j p q => h2.out j (by omega)
  have q7 : sg d3 a c = sg d2 a c := sg_same fun j p q => h3.out j (by omega)
  have q8 : sg d3 a b = sg d2 a c ++ sg d3 c b := by rw [← sg_app d3 (m := c) (by omega) (by omega), q7]
  have q9 : sg d a b = (sg d a s ++ sg d s m) ++ (sg d m e ++ sg d e b) := by rw [sg_app d has hsm, sg_app d hme heb, sg_app d (by omega) (by omega)]
  have := merge_cut (key := key) (A1 := sg d a s) (A2 := sg d s m) (B1 := sg d m e) (B2 := sg d e b) (C := sg d2 a c) (D := sg d3 c b)
    (by rwa [sg_app d has hsm]) (by rwa [sg_app d hme heb])
    (fun x hx y hy => by
      obtain ⟨i, i1, i2, rfl⟩ := sg_mem.1 hx
      obtain ⟨j, j1, j2, rfl⟩ := sg_mem.1 hy
      exact Int.le_trans (Int.le_trans (srt_le hA i1 (show i ≤ s - 1 by omega) (by omega)) (h12 (by omega) (by omega))) (srt_le hB hme j1 j2))
    (fun y hy x hx => by
      obtain ⟨i, i1, i2, rfl⟩ := sg_mem.1 hx
      obtain ⟨j, j1, j2, rfl⟩ := sg_mem.1 hy
      exact Int.lt_of_lt_of_le (Int.lt_of_le_of_lt (srt_le hB j1 (show j ≤ e - 1 by omega) (by omega)) (h21 (by omega) (by omega))) (srt_le hA has i1 i2))
    h2.srt h3.srt (by rw [← q4]; exact h2.ren) (by rw [← q5, ← q6]; exact h3.ren)
  refine ⟨h3.size.trans (h2.size.trans h1.1), fun j hj => ?_, q8 ▸ this.1, by rw [q8, q9]; exact this.2⟩
  rw [h3.out j (by omega), h2.out j (by omega), h1.out hsm hme (by omega)]
end Go.Proofs.YtpchhfhmopmagaaGreat.So

/- Go's insertion sort keeps equals in their order; blocks that are sorted, merged two by two. -/
namespace Go.Proofs.YtpchhfhmopmagaaGreat.So
open Go.Sort
variable {α : Type} [Inhabited α] {key : α → Int}

theorem rot_swp {d : Array α} {j : Nat} (h : j + 1 < d.size) : RotR d (swp d (j + 1) j) j (j + 1) (j + 2) := by
  refine ⟨swp_size _ _ _, fun t => ?_⟩
  rw [swp_get d h (by omega)]
  (repeat' split) <;> first | (exfalso; omega) | rfl | (congr 1; omega)
theorem ren_swp {d : Array α} {a b j : Nat} (h1 : a ≤ j) (h2 : j + 1 < b) (hb : b ≤ d.size) (hk : key d[j + 1]! < key d[j]!) : Ren key (sg d a b) (sg (swp d (j + 1) j) a b) := by
  have hr := rot_swp (d := d) (j := j) (by omega)
  have e0 : sg (swp d (j + 1) j) j (j + 1) = sg d (j + 1) (j + 2) := by have := hr.left (by omega) (by omega); rwa [show j + (j + 2 - (j + 1)) = j + 1 by omega] at this
  have e1 : sg (swp d (j + 1) j) (j + 1) (j + 2) = sg d j (j + 1) := by have := hr.right (by omega) (by omega); rwa [show j + (j + 2 - (j + 1)) = j + 1 by omega] at this
  have e2 : sg (swp d (j + 1) j) a j = sg d a j := sg_same fun t p q => hr.out (by omega) (by omega) (by omega)
  have e3 : sg (swp d (j + 1) j) (j + 2) b = sg d (j + 2) b := sg_same fun t p q => hr.out (by omega) (by omega) (by omega)
  rw [← sg_app (swp d (j + 1) j) (m := j) h1 (by omega), ← sg_app (swp d (j + 1) j) (a := j) (m := j + 2) (by omega) (by omega), ← sg_app (swp d (j + 1) j) (a := j) (m := j + 1) (by omega) (by omega), e0, e1, e2, e3,
    ← sg_app d (m := j) h1 (by omega), ← sg_app d (a := j) (m := j + 2) (by omega) (by omega), ← sg_app d (a := j) (m := j + 1) (by omega) (by omega)]
  refine (Ren.refl _).append (Ren.append (Ren.rotate fun x hx y hy => ?_) (Ren.refl _))
  rw [sg_one, List.mem_singleton] at hx
  rw [sg_one, List.mem_singleton] at hy
  subst hx hy; omega

variable {cf : α → α → Int}
theorem ren_inner (hcf : ∀ x y, cf x y < 0 ↔ key x < key y) {a b : Nat} : ∀ (j : Nat) (d : Array α), a ≤ j → j < b → b ≤ d.size → Ren key (sg d a b) (sg (insInner (ltOf cf) a j d) a b) ∧ (insInner (ltOf cf) a j d).size = d.size
  | 0, d, _, _, _ => ⟨Ren.refl _, rfl⟩
  | j + 1, d, h1, h2, hb => by
    rw [insInner]
    split
    · rename_i hc
      simp only [Bool.and_eq_true, decide_eq_true_eq, ltOf, hcf] at hc
      have ih := ren_inner hcf (a := a) (b := b) j (swp d (j + 1) j) (by omega) (by omega) (by rw [swp_size]; exact hb)
      exact ⟨(ren_swp (by omega) h2 hb hc.2).trans ih.1, ih.2.trans (swp_size _ _ _)⟩
    · exact ⟨Ren.refl _, rfl⟩
theorem ren_outer (hcf : ∀ x y, cf x y < 0 ↔ key x < key y) {a b : Nat} : ∀ (n i : Nat) (d : Array α), b - i = n → a ≤ i → b ≤ d.size → Ren key (sg d a b) (sg (insOuter (ltOf cf) a b i d) a b)
  | 0, i, d, hn, _, _ => by rw [insOuter, if_neg (by omega)]; exact Ren.refl _
  | n + 1, i, d, hn, h1, hb => by
    rw [insOuter, if_pos (by omega)]
    have := ren_inner hcf (a := a) (b := b) i d h1 (by omega) hb
    exact this.1.trans (ren_outer hcf n (i + 1) _ (by omega) (by omega) (by rw [this.2]; exact hb))
omit [Inhabited α] in
theorem swo_key (hcf : ∀ x y, cf x y < 0 ↔ key x < key y) : SWO (ltOf cf) where
  irrefl x := by simp [ltOf, hcf]
  trans x y z h1 h2 := by simp only [ltOf, decide_eq_true_eq, hcf] at *; omega
  ntrans x y z h1 h2 := by simp only [ltOf, decide_eq_false_iff_not, hcf] at *; omega
theorem ins_mer (hcf : ∀ x y, cf x y < 0 ↔ key x < key y) (d : Array α) {a b : Nat} (hab : a ≤ b) (hb : b ≤ d.size) : MerR key d (insertionSort (ltOf cf) d a b) a b := by
  obtain ⟨hp, hs⟩ := insertionSort_holds (lt := ltOf cf) (swo_key hcf) d a b hab hb
  refine ⟨hp.1, fun j hj => hp.2.1 j (by omega), srt_sg fun i j h1 h2 h3 => ?_, ren_outer hcf _ _ _ rfl (by omega) hb⟩
  have := hs i j h1 h2 h3
  simp only [ltOf, decide_eq_false_iff_not, hcf] at this
  omega

end Go.Proofs.YtpchhfhmopmagaaGreat.So

/- slices.SortStableFunc's family at classes: symMerge, a first run of one element. -/
namespace Go.Proofs.YtpchhfhmopmagaaGreat.So
open Go.Shelf Go.RowKit Go.Lib Go.Sort
variable {α : Type} [Inhabited α] {key : α → Int}

/-- behind one step of a rotation by one to the right -/
theorem rot_on {d dk : Array α} {a t : Nat} (h : RotR d dk a (a + 1) (t + 1)) (hat : a ≤ t) (ht : t + 1 < d.size) : RotR d (swp dk t (t + 1)) a (a + 1) (t + 2) := by
  refine ⟨(swp_size _ _ _).trans h.1, fun j => ?_⟩
  rw [swp_get dk (by rw [h.1]; omega) (by rw [h.1]; exact ht), h.2, h.2, h.2]
  (repeat' split) <;> first | (exfalso; omega) | rfl | (congr 1; omega)
theorem rot_back {d dk : Array α} {t m : Nat} (h : RotR d dk (t + 1) m (m + 1)) (ht : t + 1 ≤ m) (hm : m < d.size) : RotR d (swp dk (t + 1) t) t m (m + 1) := by
  refine ⟨(swp_size _ _ _).trans h.1, fun j => ?_⟩
  rw [swp_get dk (by rw [h.1]; omega) (by rw [h.1]; omega), h.2, h.2, h.2]
  (repeat' split) <;> first | (exfalso; omega) | rfl | (congr 1; omega)

set_option maxHeartbeats 8000000 in
set_option maxRecDepth 1000000 in
theorem sym_first {P : Program} {k : Nat} (L : SL P k) (enc : α → List Value) (cf : α → α → Int) (hcf : ∀ x y, cf x y < 0 ↔ key x < key y) (g : Nat) (cb : Array Value) (blk off cap sz a m b : Nat) (hm : m = a + 1) (d0 d : Array α) (w0 w : World)
    (eg : ∀ args w, (callFunc g args).run P w = .ok (.enter g args) w) (hcmp : CmpLays P g cb enc k cf blk off sz w0)
    (R : RowK enc k w0 blk off d0) (hs : d0.size = sz) (hd : d.size = sz) (S : SWK enc k w0 blk off d w) (hmb : m < b) (hb : b ≤ sz) (hsz : sz < 4611686018427387904) (hB : Srt key (sg d m b)) :
    Calls P 275 #[.slice (some ⟨blk, off, none⟩) sz cap, .int .i64 a, .int .i64 m, .int .i64 b, .func (.func g) #[] cb] w fun e w' => e = .returned (.tuple #[]) ∧ ∃ d', MerR key d d' a b ∧ SWK enc k w0 blk off d' w' := by
  obtain ⟨mixed, FS, FR, FG, _, aE, zE, t0, a0, z0, v0, ti, ai, zi, vi, tb, ab, zb, vb, ts, al, zs, vs, tf, af, zf, vf, tu, au, zu, vu⟩ := L
  have S0 : Aside (SWK enc k w0 blk off d w) := S
  have HC : Aside _ := hcmp
  have HB : Hid _ := hB
  have HCF : Aside _ := hcf
  clear S FS FR hcmp hB hcf
  have hbq : (((m : Int) - (a : Int)) == 1) = true := by simp; omega
  have ham : a < m := by omega
  have HM : Hid (m = a + 1) := hm
  clear hm
  go_enter FG, Tryz.ntmps275
  go_wp2
  go_loopg [10, 11] (b - m) (fun kx s10 s11 wr => ∃ (i j : Nat), s10 = .int .i64 i ∧ s11 = .int .i64 j ∧ m ≤ i ∧ i ≤ j ∧ j ≤ b ∧ j - i ≤ kx ∧ Aside (SWK enc k w0 blk off d wr) ∧ Hid (∀ t, m ≤ t → t < i → key d[t]! < key d[a]!) ∧ Hid (∀ t, j ≤ t → t < b → key d[a]! ≤ key d[t]!))
  case atStart => exact ⟨m, b, rfl, rfl, by omega, by omega, by omega, by omega, S0, fun t h1 h2 => by omega, fun t h1 h2 => by omega⟩
  case round =>
    clear S0
    obtain ⟨i, j, rfl, rfl, hai, hij, hjb, hkx, S1, HL, HR⟩ := hrel
    by_cases hlt : i < j
    · have hltz : (i : Int) < (j : Int) := by omega
      go_wp2_with fail
      obtain ⟨h, hh, hih, hhj⟩ : ∃ h : Nat, ((i : Int) + (j : Int)) / 2 = (h : Int) ∧ i ≤ h ∧ h < j := ⟨(i + j) / 2, by omega, by omega, by omega⟩
      rw [hh]
      have ea24 : ((h : Int)).toNat = h := by omega
      have pa24 : (0 : Int) ≤ (h : Int) := by omega
      have ba24 : (h : Int) < (sz : Int) := by omega
      have ec24 : ((a : Int)).toNat = a := by omega
      have pc24 : (0 : Int) ≤ (a : Int) := by omega
      have bc24 : (a : Int) < (sz : Int) := by omega
      obtain ⟨x24, hx24⟩ : ∃ x, x = d[h]! := ⟨_, rfl⟩
      obtain ⟨y24, hy24⟩ : ∃ x, x = d[a]! := ⟨_, rfl⟩
      have l24a := S1.out.ld R (by omega) P h (by omega)
      have l24b := S1.out.ld R (by omega) P a (by omega)
      rw [← hx24] at l24a
      rw [← hy24] at l24b
      have hc24 := S1.out.cmp HC.out (by omega) x24 y24
      have HX : Hid (x24 = d[h]! ∧ y24 = d[a]!) := ⟨hx24, hy24⟩
      clear hx24 hy24
      by_cases hv24 : cf x24 y24 < 0
      · have hd24 : decide (cf x24 y24 < 0) = true := decide_eq_true hv24
        go_wp2_with fail
        go_quiet_grown (first | (go_at_fn g; refine Calls.grown_of (hc24 _ _)))
        have S2 : Aside (SWK enc k w0 blk off d (grow (wr.drewN nq) osq)) := S1.out.grown nq osq
        clear l24a l24b hc24 S1
        generalize grow (wr.drewN nq) osq = w2 at S2 ⊢
        clear nq osq
        go_wp2
        go_roundg (j - (h + 1))
        case measure => omega
        case rel =>
          refine ⟨h + 1, j, by go_num, rfl, by omega, by omega, hjb, by omega, S2, fun t h1 h2 => ?_, HR⟩
          obtain ⟨e1, e2⟩ := HX.out
          have hk := (HCF.out _ _).1 hv24
          rw [e1, e2] at hk
          exact Int.lt_of_le_of_lt (srt_le HB.out h1 (show t ≤ h by omega) (by omega)) hk
      · have hd24 : decide (cf x24 y24 < 0) = false := decide_eq_false hv24
        go_wp2_with fail
        go_quiet_grown (first | (go_at_fn g; refine Calls.grown_of (hc24 _ _)))
        have S2 : Aside (SWK enc k w0 blk off d (grow (wr.drewN nq) osq)) := S1.out.grown nq osq
        clear l24a l24b hc24 S1
        generalize grow (wr.drewN nq) osq = w2 at S2 ⊢
        clear nq osq
        go_wp2
        go_roundg (h - i)
        case measure => omega
        case rel =>
          refine ⟨i, h, rfl, rfl, hai, hih, by omega, by omega, S2, HL, fun t h1 h2 => ?_⟩
          obtain ⟨e1, e2⟩ := HX.out
          have hk : ¬ key x24 < key y24 := fun hk => by have := (HCF.out x24 y24).2 hk; omega
          rw [e1, e2] at hk
          have hk' : key d[a]! ≤ key d[h]! := by omega
          exact Int.le_trans hk' (srt_le HB.out (show m ≤ h by omega) h1 h2)
    · have hltz : ¬ (i : Int) < (j : Int) := by omega
      obtain rfl : i = j := by omega
      go_wp2
      go_loopg [13] (i - 1 - a) (fun kx s13 wr2 => ∃ (t : Nat) (dk : Array α), s13 = .int .i64 t ∧ a ≤ t ∧ t ≤ i - 1 ∧ i - 1 - t ≤ kx ∧ dk.size = sz ∧ Aside (SWK enc k w0 blk off dk wr2) ∧ Hid (RotR d dk a m (t + 1)))
      case atStart => exact ⟨a, d, rfl, by omega, by omega, by omega, hd, S1, RotR.nothing d a m (a + 1) (.inr HM.out)⟩
      case round =>
        clear S1
        obtain ⟨t, dk, rfl, hat, hti, hkt, hds, S1, HE⟩ := hrel
        by_cases hlt2 : t < i - 1
        · have hltz2 : (t : Int) < (i : Int) - 1 := by omega
          go_wp2_with fail
          have ea44 : ((t : Int)).toNat = t := by omega
          have pa44 : (0 : Int) ≤ (t : Int) := by omega
          have ba44 : (t : Int) < (sz : Int) := by omega
          have ra44 : IntKind.i64.wrap ((t : Int)) = (t : Int) := by rw [IntKind.wrap_i64]; omega
          have ec44 : ((t : Int) + 1).toNat = t + 1 := by omega
          have pc44 : (0 : Int) ≤ (t : Int) + 1 := by omega
          have bc44 : (t : Int) + 1 < (sz : Int) := by omega
          have rc44 : IntKind.i64.wrap ((t : Int) + 1) = (t : Int) + 1 := by rw [IntKind.wrap_i64]; omega
          have S2 : Aside (SWK enc k w0 blk off (swp dk t (t + 1)) ((wr.drew.setCells blk (off + t * k) (enc dk[t + 1]!)).setCells blk (off + (t + 1) * k) (enc dk[t]!))) := S1.out.swapped R t (t + 1) (by omega) (by omega)
          have l44a := S1.out.ld1 R (by omega) P t (by omega)
          have l44b := S1.out.ld1 R (by omega) P (t + 1) (by omega)
          have s44a := S1.out.st1 R (by omega) P t (by omega) dk[t + 1]!
          have s44b := S1.out.st2 R (by omega) P t (t + 1) (by omega) (by omega) dk[t + 1]! dk[t]!
          have n44a : (enc dk[t]!).length = k := R.hk _
          have n44b : (enc dk[t + 1]!).length = k := R.hk _
          generalize enc dk[t]! = cI44 at S2 l44a s44b n44a
          generalize enc dk[t + 1]! = cJ44 at S2 l44b s44a s44b n44b
          clear S1
          go_wp2_with fail
          go_big_region_o
          clear l44a l44b s44a s44b
          generalize (wr.drew.setCells blk (off + t * k) cJ44).setCells blk (off + (t + 1) * k) cI44 = w2 at S2 ⊢
          go_wp2
          go_roundg (i - 1 - (t + 1))
          case measure => omega
          case rel => exact ⟨t + 1, swp dk t (t + 1), by go_num, by omega, by omega, by omega, by rw [size_swp]; exact hds, S2, by have := HE.out; have hm := HM.out; subst hm; exact rot_on this hat (by omega)⟩
        · have hltz2 : ¬ (t : Int) < (i : Int) - 1 := by omega
          go_wp2
          (try simp only [Exit.inBlock, Exit.then]); refine bodyPost_ret (results_none rfl _ _ _) rfl ?_
          have ht : t + 1 = i := by omega
          have hr : RotR d dk a m i := by rw [← ht]; exact HE.out
          have hb' := HB.out
          have hl' := HL.out
          have hr' := HR.out
          have hm := HM.out
          subst hm
          exact ⟨rfl, dk, mer_first hr hai hjb hb' hl' hr', S1.out⟩
end Go.Proofs.YtpchhfhmopmagaaGreat.So

/- slices.SortStableFunc's family at classes: symMerge, a second run of one element. -/
namespace Go.Proofs.YtpchhfhmopmagaaGreat.So
open Go.Shelf Go.RowKit Go.Lib Go.Sort
variable {α : Type} [Inhabited α] {key : α → Int}

set_option maxHeartbeats 8000000 in
set_option maxRecDepth 1000000 in
theorem sym_last {P : Program} {k : Nat} (L : SL P k) (enc : α → List Value) (cf : α → α → Int) (hcf : ∀ x y, cf x y < 0 ↔ key x < key y) (g : Nat) (cb : Array Value) (blk off cap sz a m b : Nat) (hm : b = m + 1) (d0 d : Array α) (w0 w : World)
    (eg : ∀ args w, (callFunc g args).run P w = .ok (.enter g args) w) (hcmp : CmpLays P g cb enc k cf blk off sz w0)
    (R : RowK enc k w0 blk off d0) (hs : d0.size = sz) (hd : d.size = sz) (S : SWK enc k w0 blk off d w) (ham : a + 1 < m) (hb : b ≤ sz) (hsz : sz < 4611686018427387904) (hA : Srt key (sg d a m)) :
    Calls P 275 #[.slice (some ⟨blk, off, none⟩) sz cap, .int .i64 a, .int .i64 m, .int .i64 b, .func (.func g) #[] cb] w fun e w' => e = .returned (.tuple #[]) ∧ ∃ d', MerR key d d' a b ∧ SWK enc k w0 blk off d' w' := by
  obtain ⟨mixed, FS, FR, FG, _, aE, zE, t0, a0, z0, v0, ti, ai, zi, vi, tb, ab, zb, vb, ts, al, zs, vs, tf, af, zf, vf, tu, au, zu, vu⟩ := L
  have S0 : Aside (SWK enc k w0 blk off d w) := S
  have HC : Aside _ := hcmp
  have HB : Hid _ := hA
  have HCF : Aside _ := hcf
  clear S FS FR hcmp hA hcf
  have hbp : (((m : Int) - (a : Int)) == 1) = false := by simp; omega
  have hbq : (((b : Int) - (m : Int)) == 1) = true := by simp; omega
  have hmb : m < b := by omega
  have HM : Hid (b = m + 1) := hm
  clear hm
  go_enter FG, Tryz.ntmps275
  go_wp2
  go_loopg [14, 15] (m - a) (fun kx s10 s11 wr => ∃ (i j : Nat), s10 = .int .i64 i ∧ s11 = .int .i64 j ∧ a ≤ i ∧ i ≤ j ∧ j ≤ m ∧ j - i ≤ kx ∧ Aside (SWK enc k w0 blk off d wr) ∧ Hid (∀ t, a ≤ t → t < i → key d[t]! ≤ key d[m]!) ∧ Hid (∀ t, j ≤ t → t < m → key d[m]! < key d[t]!))
  case atStart => exact ⟨a, m, rfl, rfl, by omega, by omega, by omega, by omega, S0, fun t h1 h2 => by omega, fun t h1 h2 => by omega⟩
  case round =>
    clear S0
    obtain ⟨i, j, rfl, rfl, hai, hij, hjb, hkx, S1, HL, HR⟩ := hrel
    by_cases hlt : i < j
    · have hltz : (i : Int) < (j : Int) := by omega
      go_wp2_with fail
      obtain ⟨h, hh, hih, hhj⟩ : ∃ h : Nat, ((i : Int) + (j : Int)) / 2 = (h : Int) ∧ i ≤ h ∧ h < j := ⟨(i + j) / 2, by omega, by omega, by omega⟩
      rw [hh]
      have ea24 : ((m : Int)).toNat = m := by omega
      have pa24 : (0 : Int) ≤ (m : Int) := by omega
      have ba24 : (m : Int) < (sz : Int) := by omega
      have ec24 : ((h : Int)).toNat = h := by omega
      have pc24 : (0 : Int) ≤ (h : Int) := by omega
      have bc24 : (h : Int) < (sz : Int) := by omega
      obtain ⟨x24, hx24⟩ : ∃ x, x = d[m]! := ⟨_, rfl⟩
      obtain ⟨y24, hy24⟩ : ∃ x, x = d[h]! := ⟨_, rfl⟩
      have l24a := S1.out.ld R (by omega) P m (by omega)
      have l24b := S1.out.ld R (by omega) P h (by omega)
      rw [← hx24] at l24a
      rw [← hy24] at l24b
      have hc24 := S1.out.cmp HC.out (by omega) x24 y24
      have HX : Hid (x24 = d[m]! ∧ y24 = d[h]!) := ⟨hx24, hy24⟩
      clear hx24 hy24
      by_cases hv24 : cf x24 y24 < 0
      · have hd24 : decide (cf x24 y24 < 0) = true := decide_eq_true hv24
        go_wp2_with fail
        go_quiet_grown (first | (go_at_fn g; refine Calls.grown_of (hc24 _ _)))
        have S2 : Aside (SWK enc k w0 blk off d (grow (wr.drewN nq) osq)) := S1.out.grown nq osq
        clear l24a l24b hc24 S1
        generalize grow (wr.drewN nq) osq = w2 at S2 ⊢
        clear nq osq
        go_wp2
        go_roundg (h - i)
        case measure => omega
        case rel =>
          refine ⟨i, h, rfl, rfl, hai, hih, by omega, by omega, S2, HL, fun t h1 h2 => ?_⟩
          obtain ⟨e1, e2⟩ := HX.out
          have hk := (HCF.out _ _).1 hv24
          rw [e1, e2] at hk
          exact Int.lt_of_lt_of_le hk (srt_le HB.out (show a ≤ h by omega) h1 h2)
      · have hd24 : decide (cf x24 y24 < 0) = false := decide_eq_false hv24
        go_wp2_with fail
        go_quiet_grown (first | (go_at_fn g; refine Calls.grown_of (hc24 _ _)))
        have S2 : Aside (SWK enc k w0 blk off d (grow (wr.drewN nq) osq)) := S1.out.grown nq osq
        clear l24a l24b hc24 S1
        generalize grow (wr.drewN nq) osq = w2 at S2 ⊢
        clear nq osq
        go_wp2
        go_roundg (j - (h + 1))
        case measure => omega
        case rel =>
          refine ⟨h + 1, j, by go_num, rfl, by omega, by omega, hjb, by omega, S2, fun t h1 h2 => ?_, HR⟩
          obtain ⟨e1, e2⟩ := HX.out
          have hk : ¬ key x24 < key y24 := fun hk => by have := (HCF.out x24 y24).2 hk; omega
          rw [e1, e2] at hk
          have hk' : key d[h]! ≤ key d[m]! := by omega
          exact Int.le_trans (srt_le HB.out h1 (show t ≤ h by omega) (by omega)) hk'
    · have hltz : ¬ (i : Int) < (j : Int) := by omega
      obtain rfl : i = j := by omega
      go_wp2
      go_loopg [17] (m - i) (fun kx s13 wr2 => ∃ (t : Nat) (dk : Array α), s13 = .int .i64 t ∧ i ≤ t ∧ t ≤ m ∧ t - i ≤ kx ∧ dk.size = sz ∧ Aside (SWK enc k w0 blk off dk wr2) ∧ Hid (RotR d dk t m b))
      case atStart => exact ⟨m, d, rfl, by omega, by omega, by omega, hd, S1, RotR.nothing d m m b (.inl rfl)⟩
      case round =>
        clear S1
        obtain ⟨t, dk, rfl, hat, hti, hkt, hds, S1, HE⟩ := hrel
        by_cases hlt2 : i < t
        · obtain ⟨t, rfl⟩ : ∃ u, t = u + 1 := ⟨t - 1, by omega⟩
          have hltz2 : (i : Int) < ((t + 1 : Nat) : Int) := by omega
          have hltz3 : (i : Int) < (t : Int) + 1 := by omega
          go_wp2_with fail
          have ea44 : ((t : Int) + 1).toNat = t + 1 := by omega
          have pa44 : (0 : Int) ≤ (t : Int) + 1 := by omega
          have ba44 : (t : Int) + 1 < (sz : Int) := by omega
          have ra44 : IntKind.i64.wrap ((t : Int) + 1) = (t : Int) + 1 := by rw [IntKind.wrap_i64]; omega
          have ec44 : ((t : Int)).toNat = t := by omega
          have pc44 : (0 : Int) ≤ (t : Int) := by omega
          have bc44 : (t : Int) < (sz : Int) := by omega
          have rc44 : IntKind.i64.wrap (t : Int) = (t : Int) := by rw [IntKind.wrap_i64]; omega
          have S2 : Aside (SWK enc k w0 blk off (swp dk (t + 1) t) ((wr.drew.setCells blk (off + (t + 1) * k) (enc dk[t]!)).setCells blk (off + t * k) (enc dk[t + 1]!))) := S1.out.swapped R (t + 1) t (by omega) (by omega)
          have l44a := S1.out.ld1 R (by omega) P (t + 1) (by omega)
          have l44b := S1.out.ld1 R (by omega) P t (by omega)
          have s44a := S1.out.st1 R (by omega) P (t + 1) (by omega) dk[t]!
          have s44b := S1.out.st2 R (by omega) P (t + 1) t (by omega) (by omega) dk[t]! dk[t + 1]!
          have n44a : (enc dk[t + 1]!).length = k := R.hk _
          have n44b : (enc dk[t]!).length = k := R.hk _
          generalize enc dk[t + 1]! = cI44 at S2 l44a s44b n44a
          generalize enc dk[t]! = cJ44 at S2 l44b s44a s44b n44b
          clear S1
          go_wp2_with fail
          go_big_region_o
          clear l44a l44b s44a s44b
          generalize (wr.drew.setCells blk (off + (t + 1) * k) cJ44).setCells blk (off + t * k) cI44 = w2 at S2 ⊢
          go_wp2
          go_roundg (t - i)
          case measure => omega
          case rel => exact ⟨t, swp dk (t + 1) t, by first | rfl | go_num | (congr 1; omega), by omega, by omega, by omega, by rw [size_swp]; exact hds, S2, by have := HE.out; have hm := HM.out; subst hm; exact rot_back this (by omega) (by omega)⟩
        · have hltz2 : ¬ (i : Int) < (t : Int) := by omega
          go_wp2
          (try simp only [Exit.inBlock, Exit.then]); refine bodyPost_ret (results_none rfl _ _ _) rfl ?_
          obtain rfl : t = i := by omega
          have hr := HE.out
          have hb' := HB.out
          have hl' := HL.out
          have hr' := HR.out
          have hm := HM.out
          subst hm
          exact ⟨rfl, dk, mer_last hr hai hti hb' hl' hr', S1.out⟩
end Go.Proofs.YtpchhfhmopmagaaGreat.So

/- slices.SortStableFunc's family at classes: symMerge, whole. -/
namespace Go.Proofs.YtpchhfhmopmagaaGreat.So
open Go.Shelf Go.RowKit Go.Lib Go.Sort
variable {α : Type} [Inhabited α] {key : α → Int}

/-- the two numbers between which the cut is looked for -/
structure Cut (a m b M s r : Nat) : Prop where
  lo : a ≤ s
  sr : s ≤ r
  rm : r ≤ m
  rM : r ≤ M
  up : M + m ≤ s + b
  sa : s = a ∨ s + b = M + m
  re : r = m ∨ r = M

theorem cut_runs {d d1 : Array α} {a s m e b c : Nat} (has : a ≤ s) (hsm : s ≤ m) (hme : m ≤ e) (heb : e ≤ b) (hc : c = s + (e - m))
    (hA : Srt key (sg d a m)) (hB : Srt key (sg d m b)) (h1 : RotR d d1 s m e) : Srt key (sg d1 a s) ∧ Srt key (sg d1 s c) ∧ Srt key (sg d1 c e) ∧ Srt key (sg d1 e b) := by
  rw [← sg_app d has hsm] at hA
  rw [← sg_app d hme heb] at hB
  refine ⟨?_, ?_, ?_, ?_⟩
  · rw [sg_same (d := d1) (d' := d) fun j p q => h1.out hsm hme (by omega)]; exact hA.left
  · rw [hc, h1.left hsm hme]; exact hB.left
  · rw [hc, h1.right hsm hme]; exact hA.right
  · rw [sg_same (d := d1) (d' := d) fun j p q => h1.out hsm hme (by omega)]; exact hB.right

def Sym (P : Program) (enc : α → List Value) (key : α → Int) (k g : Nat) (cb : Array Value) (blk off cap sz : Nat) (w0 : World) (N : Nat) : Prop :=
  ∀ (a m b : Nat) (d : Array α) (w : World), b - a < N → a < m → m < b → b ≤ sz → d.size = sz → SWK enc k w0 blk off d w → Srt key (sg d a m) → Srt key (sg d m b) → ∀ az mz bz : Int, az = a → mz = m → bz = b →
    Calls P 275 #[.slice (some ⟨blk, off, none⟩) sz cap, .int .i64 az, .int .i64 mz, .int .i64 bz, .func (.func g) #[] cb] w fun e w' => e = .returned (.tuple #[]) ∧ ∃ d', MerR key d d' a b ∧ SWK enc k w0 blk off d' w'

set_option maxHeartbeats 40000000 in
set_option maxRecDepth 1000000 in
theorem sym_rec {P : Program} {k : Nat} (L : SL P k) (enc : α → List Value) (cf : α → α → Int) (hcf : ∀ x y, cf x y < 0 ↔ key x < key y) (g : Nat) (cb : Array Value) (blk off cap sz a m b : Nat) (d0 d : Array α) (w0 w : World)
    (eg : ∀ args w, (callFunc g args).run P w = .ok (.enter g args) w) (hcmp : CmpLays P g cb enc k cf blk off sz w0)
    (R : RowK enc k w0 blk off d0) (hs : d0.size = sz) (hd : d.size = sz) (S : SWK enc k w0 blk off d w) (ham : a + 1 < m) (hmb : m + 1 < b) (hb : b ≤ sz) (hsz : sz < 4611686018427387904) (hA : Srt key (sg d a m)) (hB : Srt key (sg d m b))
    (ih : Sym P enc key k g cb blk off cap sz w0 (b - a)) :
    Calls P 275 #[.slice (some ⟨blk, off, none⟩) sz cap, .int .i64 a, .int .i64 m, .int .i64 b, .func (.func g) #[] cb] w fun e w' => e = .returned (.tuple #[]) ∧ ∃ d', MerR key d d' a b ∧ SWK enc k w0 blk off d' w' := by
  have hrot := fun (ra rm rb : Nat) (dk : Array α) (wr : World) (hd : dk.size = sz) (S : SWK enc k w0 blk off dk wr) (h1 : ra < rm) (h2 : rm < rb) (h3 : rb ≤ sz) (bz : Int) (e : bz = rb) =>
    (show Calls P 281 #[.slice (some ⟨blk, off, none⟩) sz cap, .int .i64 ra, .int .i64 rm, .int .i64 bz, .func (.func g) #[] cb] wr fun e w' => e = .returned (.tuple #[]) ∧ ∃ d', RotR dk d' ra rm rb ∧ SWK enc k w0 blk off d' w' from by
      subst e; exact rotate_any L enc g cb blk off cap sz ra rm rb d0 dk w0 wr R hs hd S h1 h2 h3 hsz)
  obtain ⟨mixed, FS, FR, FG, _, aE, zE, t0, a0, z0, v0, ti, ai, zi, vi, tb, ab, zb, vb, ts, al, zs, vs, tf, af, zf, vf, tu, au, zu, vu⟩ := L
  have er : ∀ args w, (callFunc 281 args).run P w = .ok (.enter 281 args) w := enters_of FR (by kernel_rfl) rfl
  have em : ∀ args w, (callFunc 275 args).run P w = .ok (.enter 275 args) w := enters_of FG (by kernel_rfl) rfl
  have S0 : Aside (SWK enc k w0 blk off d w) := S
  have HC : Aside _ := hcmp
  have HA : Hid _ := hA
  have HB : Hid _ := hB
  have HCF : Aside _ := hcf
  have HROT : Aside _ := hrot
  have IH : Aside _ := ih
  clear S FS FR hcmp hA hB hcf hrot ih
  have hbp : (((m : Int) - (a : Int)) == 1) = false := by simp; omega
  have hbq : (((b : Int) - (m : Int)) == 1) = false := by simp; omega
  obtain ⟨M, hM, hM1, hM2⟩ : ∃ M : Nat, ((a : Int) + (b : Int)) / 2 = (M : Int) ∧ 2 * M ≤ a + b ∧ a + b ≤ 2 * M + 1 := ⟨(a + b) / 2, by omega, by omega, by omega⟩
  go_enter FG, Tryz.ntmps275
  go_upto_if 140 with (fail)
  go_cut [20, 21] (fun s20 s21 wx => ∃ s0 r0 : Nat, s20 = .int .i64 s0 ∧ s21 = .int .i64 r0 ∧ Cut a m b M s0 r0 ∧ wx = w)
  case first =>
    by_cases hlt : M < m
    · have hltz : (M : Int) < (m : Int) := by omega
      go_wp2
      go_meet
      refine ⟨M + m - b, M, ?_, rfl, ⟨by omega, by omega, by omega, by omega, by omega, by omega, by omega⟩, rfl⟩
      first | rfl | go_num | (congr 1; omega)
    · have hltz : ¬ (M : Int) < (m : Int) := by omega
      go_wp2
      go_meet
      exact ⟨a, m, rfl, rfl, ⟨by omega, by omega, by omega, by omega, by omega, by omega, by omega⟩, rfl⟩
  case rest =>
    obtain ⟨s0, r0, rfl, rfl, C, rfl⟩ := hcut
    have lo := C.lo; have sr := C.sr; have rm := C.rm; have rM := C.rM; have up := C.up
    have HSE : Hid ((s0 = a ∨ s0 + b = M + m) ∧ (r0 = m ∨ r0 = M)) := ⟨C.sa, C.re⟩
    clear C
    go_wp2
    go_loopg [20, 21] (r0 - s0) (fun kx s20 s21 wr => ∃ (i j : Nat), s20 = .int .i64 i ∧ s21 = .int .i64 j ∧ s0 ≤ i ∧ i ≤ j ∧ j ≤ r0 ∧ j - i ≤ kx ∧ Aside (SWK enc k w0 blk off d wr) ∧ Hid (∀ t, s0 ≤ t → t < i → key d[t]! ≤ key d[M + m - 1 - t]!) ∧ Hid (∀ t, j ≤ t → t < r0 → key d[M + m - 1 - t]! < key d[t]!))
    case atStart => exact ⟨s0, r0, rfl, rfl, by omega, by omega, by omega, by omega, S0, fun t h1 h2 => by omega, fun t h1 h2 => by omega⟩
    case round =>
      clear S0
      obtain ⟨i, j, rfl, rfl, hai, hij, hjb, hkx, S1, HL, HR⟩ := hrel
      by_cases hlt : i < j
      · have hltz : (i : Int) < (j : Int) := by omega
        go_wp2_with fail
        obtain ⟨h, hh, hih, hhj⟩ : ∃ h : Nat, ((i : Int) + (j : Int)) / 2 = (h : Int) ∧ i ≤ h ∧ h < j := ⟨(i + j) / 2, by omega, by omega, by omega⟩
        rw [hh]
        obtain ⟨q, hq, hq1, hq2⟩ : ∃ q : Nat, (M : Int) + (m : Int) - 1 - (h : Int) = (q : Int) ∧ m ≤ q ∧ q < b := ⟨M + m - 1 - h, by omega, by omega, by omega⟩
        have HQ : Hid (M + m - 1 - h = q) := (by omega : M + m - 1 - h = q)
        have ea24 : ((q : Int)).toNat = q := by omega
        have pa24 : (0 : Int) ≤ (q : Int) := by omega
        have ba24 : (q : Int) < (sz : Int) := by omega
        have ra24 : IntKind.i64.wrap (q : Int) = (q : Int) := by rw [IntKind.wrap_i64]; omega
        have ec24 : ((h : Int)).toNat = h := by omega
        have pc24 : (0 : Int) ≤ (h : Int) := by omega
        have bc24 : (h : Int) < (sz : Int) := by omega
        obtain ⟨x24, hx24⟩ : ∃ x, x = d[q]! := ⟨_, rfl⟩
        obtain ⟨y24, hy24⟩ : ∃ x, x = d[h]! := ⟨_, rfl⟩
        have l24a := S1.out.ld R (by omega) P q (by omega)
        have l24b := S1.out.ld R (by omega) P h (by omega)
        rw [← hx24] at l24a
        rw [← hy24] at l24b
        have hc24 := S1.out.cmp HC.out (by omega) x24 y24
        have HX : Hid (x24 = d[q]! ∧ y24 = d[h]!) := ⟨hx24, hy24⟩
        clear hx24 hy24
        by_cases hv24 : cf x24 y24 < 0
        · have hd24 : decide (cf x24 y24 < 0) = true := decide_eq_true hv24
          go_wp2_with fail
          go_quiet_grown (first | (go_at_fn g; refine Calls.grown_of (hc24 _ _)))
          have S2 : Aside (SWK enc k w0 blk off d (grow (wr.drewN nq) osq)) := S1.out.grown nq osq
          clear l24a l24b hc24 S1
          generalize grow (wr.drewN nq) osq = w2 at S2 ⊢
          clear nq osq
          go_wp2
          go_roundg (h - i)
          case measure => omega
          case rel =>
            refine ⟨i, h, rfl, rfl, hai, hih, by omega, by omega, S2, HL, fun t h1 h2 => ?_⟩
            obtain ⟨e1, e2⟩ := HX.out
            have hk := (HCF.out _ _).1 hv24
            have hqe := HQ.out
            rw [e1, e2] at hk
            exact Int.lt_of_lt_of_le (Int.lt_of_le_of_lt (srt_le HB.out (show m ≤ M + m - 1 - t by omega) (show M + m - 1 - t ≤ q by omega) hq2) hk) (srt_le HA.out (show a ≤ h by omega) h1 (by omega))
        · have hd24 : decide (cf x24 y24 < 0) = false := decide_eq_false hv24
          go_wp2_with fail
          go_quiet_grown (first | (go_at_fn g; refine Calls.grown_of (hc24 _ _)))
          have S2 : Aside (SWK enc k w0 blk off d (grow (wr.drewN nq) osq)) := S1.out.grown nq osq
          clear l24a l24b hc24 S1
          generalize grow (wr.drewN nq) osq = w2 at S2 ⊢
          clear nq osq
          go_wp2
          go_roundg (j - (h + 1))
          case measure => omega
          case rel =>
            refine ⟨h + 1, j, by go_num, rfl, by omega, by omega, hjb, by omega, S2, fun t h1 h2 => ?_, HR⟩
            obtain ⟨e1, e2⟩ := HX.out
            have hk : ¬ key x24 < key y24 := fun hk => by have := (HCF.out x24 y24).2 hk; omega
            rw [e1, e2] at hk
            have hqe := HQ.out
            have hk' : key d[h]! ≤ key d[q]! := by omega
            exact Int.le_trans (Int.le_trans (srt_le HA.out (show a ≤ t by omega) (show t ≤ h by omega) (by omega)) hk') (srt_le HB.out hq1 (show q ≤ M + m - 1 - t by omega) (by omega))
      · have hltz : ¬ (i : Int) < (j : Int) := by omega
        obtain rfl : i = j := by omega
        obtain ⟨e, he, hme, heb⟩ : ∃ e : Nat, (M : Int) + (m : Int) - (i : Int) = (e : Int) ∧ m ≤ e ∧ e ≤ b := ⟨M + m - i, by omega, by omega, by omega⟩
        have him : i ≤ m := by omega
        have HE : Hid (M + m - i = e ∧ M = i + (e - m)) := ⟨by omega, by omega⟩
        have H12 : Hid (a < i → e < b → key d[i - 1]! ≤ key d[e]!) := fun h1 h2 => by
          have := HL.out (i - 1) (by have := HSE.out; omega) (by omega)
          rwa [show M + m - 1 - (i - 1) = e by omega] at this
        have H21 : Hid (m < e → i < m → key d[e - 1]! < key d[i]!) := fun h1 h2 => by
          have := HR.out i (Nat.le_refl _) (by have := HSE.out; omega)
          rwa [show M + m - 1 - i = e - 1 by omega] at this
        clear HL HR HSE
        have SX : Aside (SWK enc k w0 blk off d wr) := S1
        go_upto_region 39 with (fail)
        -- the rotation
        rcases (by omega : ¬ i < m ∨ (i < m ∧ ¬ m < e) ∨ (i < m ∧ m < e)) with hc | ⟨hc, hc2⟩ | ⟨hc, hc2⟩
        all_goals first
          | (have z1 : ¬ (i : Int) < (m : Int) := (by omega)
             have z2 : decide ((i : Int) < (m : Int)) = false := decide_eq_false z1
             obtain ⟨d1, H1, S2⟩ : ∃ d1, Hid (RotR d d1 i m e) ∧ Aside (SWK enc k w0 blk off d1 wr) := ⟨d, RotR.nothing d i m e (.inl (by omega)), S1⟩
             clear S1
             go_upto_region 41 with (fail))
          | (have z1 : (i : Int) < (m : Int) := (by omega)
             have z3 : ¬ (m : Int) < (e : Int) := (by omega)
             obtain ⟨d1, H1, S2⟩ : ∃ d1, Hid (RotR d d1 i m e) ∧ Aside (SWK enc k w0 blk off d1 wr) := ⟨d, RotR.nothing d i m e (.inr (by omega)), S1⟩
             clear S1
             go_upto_region 41 with (fail))
          | (have z1 : (i : Int) < (m : Int) := (by omega)
             have z3 : (m : Int) < (e : Int) := (by omega)
             have hcall := HROT.out i m e d wr hd S1.out hc hc2 (by omega) (e : Int) rfl
             clear S1
             go_upto_region 41 with (go_at_fn 281; refine hcall.mono ?_; rintro e1 w1 ⟨rfl, d1, h1, s2⟩)
             have H1 : Hid (RotR d d1 i m e) := h1
             have S2 : Aside (SWK enc k w0 blk off d1 w1) := s2
             clear h1 s2 hcall)
        all_goals
          have HD1 : Hid (d1.size = sz ∧ Srt key (sg d1 a i) ∧ Srt key (sg d1 i M) ∧ Srt key (sg d1 M e) ∧ Srt key (sg d1 e b)) := ⟨H1.out.1.trans hd, cut_runs (by omega) him hme heb HE.out.2 HA.out HB.out H1.out⟩
          rcases (by omega : ¬ a < i ∨ (a < i ∧ ¬ i < M) ∨ (a < i ∧ i < M)) with hc3 | ⟨hc3, hc4⟩ | ⟨hc3, hc4⟩
        all_goals first
          | (have y1 : ¬ (a : Int) < (i : Int) := (by omega)
             have y2 : decide ((a : Int) < (i : Int)) = false := decide_eq_false y1
             obtain ⟨d2, H2, S3⟩ : ∃ d2, Hid (MerR key d1 d2 a M) ∧ Aside (SWK enc k w0 blk off d2 _) := ⟨d1, mer_nothing HD1.out.2.1 HD1.out.2.2.1 (.inl (by omega)), S2⟩
             clear S2
             go_upto_region 43 with (fail))
          | (have y1 : (a : Int) < (i : Int) := (by omega)
             have y3 : ¬ (i : Int) < (M : Int) := (by omega)
             obtain ⟨d2, H2, S3⟩ : ∃ d2, Hid (MerR key d1 d2 a M) ∧ Aside (SWK enc k w0 blk off d2 _) := ⟨d1, mer_nothing HD1.out.2.1 HD1.out.2.2.1 (.inr (by omega)), S2⟩
             clear S2
             go_upto_region 43 with (fail))
          | (have y1 : (a : Int) < (i : Int) := (by omega)
             have y3 : (i : Int) < (M : Int) := (by omega)
             have hcall2 := IH.out a i M d1 _ (by omega) hc3 hc4 (by omega) HD1.out.1 S2.out HD1.out.2.1 HD1.out.2.2.1 a i M rfl rfl rfl
             clear S2
             go_upto_region 43 with (go_at_fn 275; refine hcall2.mono ?_; rintro e2 w2 ⟨rfl, d2, h2, s3⟩)
             have H2 : Hid (MerR key d1 d2 a M) := h2
             have S3 : Aside (SWK enc k w0 blk off d2 w2) := s3
             clear h2 s3 hcall2)
        all_goals
          have HD2 : Hid (d2.size = sz ∧ Srt key (sg d2 M e) ∧ Srt key (sg d2 e b)) := ⟨H2.out.size.trans HD1.out.1,
            (by rw [sg_same (d := d2) (d' := d1) fun j p q => H2.out.out j (by omega)]; exact HD1.out.2.2.2.1), (by rw [sg_same (d := d2) (d' := d1) fun j p q => H2.out.out j (by have := HE.out; omega)]; exact HD1.out.2.2.2.2)⟩
          rcases (by omega : ¬ M < e ∨ (M < e ∧ ¬ e < b) ∨ (M < e ∧ e < b)) with hc5 | ⟨hc5, hc6⟩ | ⟨hc5, hc6⟩
        all_goals first
          | (have x1 : ¬ (M : Int) < (e : Int) := (by omega)
             have x2 : decide ((M : Int) < (e : Int)) = false := decide_eq_false x1
             obtain ⟨d3, H3, S4⟩ : ∃ d3, Hid (MerR key d2 d3 M b) ∧ Aside (SWK enc k w0 blk off d3 _) := ⟨d2, mer_nothing HD2.out.2.1 HD2.out.2.2 (.inl (by have := HE.out; omega)), S3⟩
             clear S3
             go_wp2)
          | (have x1 : (M : Int) < (e : Int) := (by omega)
             have x3 : ¬ (e : Int) < (b : Int) := (by omega)
             obtain ⟨d3, H3, S4⟩ : ∃ d3, Hid (MerR key d2 d3 M b) ∧ Aside (SWK enc k w0 blk off d3 _) := ⟨d2, mer_nothing HD2.out.2.1 HD2.out.2.2 (.inr (by omega)), S3⟩
             clear S3
             go_wp2)
          | (have x1 : (M : Int) < (e : Int) := (by omega)
             have x3 : (e : Int) < (b : Int) := (by omega)
             have hcall3 := IH.out M e b d2 _ (by omega) hc5 hc6 (by omega) HD2.out.1 S3.out HD2.out.2.1 HD2.out.2.2 M e b rfl rfl rfl
             clear S3
             go_wp2_with (go_at_fn 275; refine hcall3.mono ?_; rintro e2 w3 ⟨rfl, d3, h3, s4⟩)
             have H3 : Hid (MerR key d2 d3 M b) := h3
             have S4 : Aside (SWK enc k w0 blk off d3 w3) := s4
             clear h3 s4 hcall3)
        all_goals
          go_end0
          exact ⟨rfl, d3, mer_cut (by omega) him hme heb HE.out.2 HA.out HB.out H12.out H21.out H1.out H2.out H3.out, S4.out⟩
end Go.Proofs.YtpchhfhmopmagaaGreat.So

/- slices.SortStableFunc's family at classes: symMerge by induction; the blocks, merged two by two. -/
namespace Go.Proofs.YtpchhfhmopmagaaGreat.So
open Go.Shelf Go.RowKit Go.Lib Go.Sort
variable {α : Type} [Inhabited α] {key : α → Int}

theorem sym_all {P : Program} {k : Nat} (L : SL P k) (enc : α → List Value) (cf : α → α → Int) (hcf : ∀ x y, cf x y < 0 ↔ key x < key y) (g : Nat) (cb : Array Value) (blk off cap sz : Nat) (d0 : Array α) (w0 : World)
    (eg : ∀ args w, (callFunc g args).run P w = .ok (.enter g args) w) (hcmp : CmpLays P g cb enc k cf blk off sz w0)
    (R : RowK enc k w0 blk off d0) (hs : d0.size = sz) (hsz : sz < 4611686018427387904) : ∀ N, Sym P enc key k g cb blk off cap sz w0 N
  | 0 => fun a m b d w h => absurd h (by omega)
  | N + 1 => fun a m b d w hN ham hmb hb hd S hA hB az mz bz ea em eb => by
    have ih := sym_all L enc cf hcf g cb blk off cap sz d0 w0 eg hcmp R hs hsz N
    subst ea em eb
    by_cases h1 : m = a + 1
    · exact sym_first L enc cf hcf g cb blk off cap sz a m b h1 d0 d w0 w eg hcmp R hs hd S hmb hb hsz hB
    · by_cases h2 : b = m + 1
      · exact sym_last L enc cf hcf g cb blk off cap sz a m b h2 d0 d w0 w eg hcmp R hs hd S (by omega) hb hsz hA
      · exact sym_rec L enc cf hcf g cb blk off cap sz a m b d0 d w0 w eg hcmp R hs hd S (by omega) (by omega) hb hsz hA hB
          (fun a' m' b' d' w' h => ih a' m' b' d' w' (by omega))

/-! ### The blocks -/
/-- the blocks of s that are whole before i are sorted, and so is each later one, up to n; the elements are those of d -/
structure Bl (key : α → Int) (d d' : Array α) (s i n : Nat) : Prop where
  size : d'.size = d.size
  ren : Ren key (sg d 0 n) (sg d' 0 n)
  srt : ∀ a, s ∣ a → a < i → Srt key (sg d' a (min (a + s) n))
theorem Bl.step {d d' d'' : Array α} {s i e n : Nat} (h : Bl key d d' s i n) (hi : s ∣ i) (hs : 0 < s) (he : e = min (i + s) n) (hin : i ≤ n) (hm : MerR key d' d'' i e) : Bl key d d'' s (i + s) n := by
  refine ⟨hm.size.trans h.size, ?_, fun a ha hai => ?_⟩
  · refine h.ren.trans ?_
    rw [← sg_app d' (m := i) (Nat.zero_le _) hin, ← sg_app d'' (m := i) (Nat.zero_le _) hin, ← sg_app d' (a := i) (m := e) (by omega) (by omega), ← sg_app d'' (a := i) (m := e) (by omega) (by omega),
      sg_same (d := d'') (d' := d') (a := 0) (b := i) fun j p q => hm.out j (by omega), sg_same (d := d'') (d' := d') (a := e) (b := n) fun j p q => hm.out j (by omega)]
    exact (Ren.refl _).append (hm.ren.append (Ren.refl _))
  · by_cases hlt : a < i
    · have : a + s ≤ i := by
        obtain ⟨u, rfl⟩ := ha; obtain ⟨v, rfl⟩ := hi
        have : u < v := Nat.lt_of_mul_lt_mul_left hlt
        have := Nat.mul_le_mul_left s (show u + 1 ≤ v from this)
        rwa [Nat.mul_add, Nat.mul_one] at this
      rw [sg_same (d := d'') (d' := d') fun j p q => hm.out j (by omega)]
      exact h.srt a ha hlt
    · have : a = i := by
        obtain ⟨u, rfl⟩ := ha; obtain ⟨v, rfl⟩ := hi
        have h1 : ¬ u < v := fun h => hlt (by have := Nat.mul_lt_mul_of_pos_left h hs; exact this)
        have h2 : u < v + 1 := by
          have : s * u < s * (v + 1) := by rw [Nat.mul_add, Nat.mul_one]; exact hai
          exact Nat.lt_of_mul_lt_mul_left this
        rw [show u = v by omega]
      subst this
      rw [← he]; exact hm.srt
/-- merging blocks of s two by two: those before i are merged (2 s each), those from i on not yet -/
structure Mg (key : α → Int) (d d' : Array α) (s i n : Nat) : Prop where
  size : d'.size = d.size
  ren : Ren key (sg d 0 n) (sg d' 0 n)
  done : ∀ a, 2 * s ∣ a → a < i → Srt key (sg d' a (min (a + 2 * s) n))
  todo : ∀ a, s ∣ a → i ≤ a → a < n → Srt key (sg d' a (min (a + s) n))
theorem Mg.start {d d' : Array α} {s n : Nat} (h : Bl key d d' s n n) : Mg key d d' s 0 n :=
  ⟨h.size, h.ren, fun a _ h => absurd h (by omega), fun a ha _ hn => h.srt a ha hn⟩
theorem Mg.finish {d d' : Array α} {s i n : Nat} (h : Mg key d d' s i n) (hi : n ≤ i + s) (_h2 : 2 * s ∣ i) (_hs : 0 < s) : Bl key d d' (2 * s) n n := by
  refine ⟨h.size, h.ren, fun a ha hn => ?_⟩
  by_cases hlt : a < i
  · exact h.done a ha hlt
  · have : s ∣ a := Nat.dvd_trans (Nat.dvd_mul_left s 2) ha
    have e := h.todo a this (by omega) hn
    rwa [show min (a + s) n = min (a + 2 * s) n by omega] at e
theorem Mg.step {d d' d'' : Array α} {s i e n : Nat} (h : Mg key d d' s i n) (h2 : 2 * s ∣ i) (hs : 0 < s) (hsn : i + s < n) (he : e = min (i + 2 * s) n) (hm : MerR key d' d'' i e) : Mg key d d'' s (i + 2 * s) n := by
  refine ⟨hm.size.trans h.size, ?_, fun a ha hai => ?_, fun a ha h1 h3 => ?_⟩
  · refine h.ren.trans ?_
    rw [← sg_app d' (m := i) (Nat.zero_le _) (show i ≤ n by omega), ← sg_app d'' (m := i) (Nat.zero_le _) (show i ≤ n by omega), ← sg_app d' (a := i) (m := e) (by omega) (by omega), ← sg_app d'' (a := i) (m := e) (by omega) (by omega),
      sg_same (d := d'') (d' := d') (a := 0) (b := i) fun j p q => hm.out j (by omega), sg_same (d := d'') (d' := d') (a := e) (b := n) fun j p q => hm.out j (by omega)]
    exact (Ren.refl _).append (hm.ren.append (Ren.refl _))
  · by_cases hlt : a < i
    · have : a + 2 * s ≤ i := by
        obtain ⟨u, rfl⟩ := ha; obtain ⟨v, rfl⟩ := h2
        have : u < v := Nat.lt_of_mul_lt_mul_left hlt
        have := Nat.mul_le_mul_left (2 * s) (show u + 1 ≤ v from this)
        rwa [Nat.mul_add, Nat.mul_one] at this
      rw [sg_same (d := d'') (d' := d') fun j p q => hm.out j (by omega)]
      exact h.done a ha hlt
    · have : a = i := by
        obtain ⟨u, rfl⟩ := ha; obtain ⟨v, rfl⟩ := h2
        have h1 : ¬ u < v := fun h => hlt (by have := Nat.mul_lt_mul_of_pos_left h (show 0 < 2 * s by omega); exact this)
        have h2 : u < v + 1 := by
          have : 2 * s * u < 2 * s * (v + 1) := by rw [Nat.mul_add, Nat.mul_one]; exact hai
          exact Nat.lt_of_mul_lt_mul_left this
        rw [show u = v by omega]
      subst this
      rw [← he]; exact hm.srt
  · rw [sg_same (d := d'') (d' := d') fun j p q => hm.out j (by omega)]
    exact h.todo a ha (by omega) h3
theorem Bl.all {d d' : Array α} {s n : Nat} (h : Bl key d d' s n n) (hs : n ≤ s) : Srt key (sg d' 0 n) := by
  by_cases h0 : n = 0
  · rw [sg_nil _ _ _ (by omega)]; exact Srt.nil
  · have := h.srt 0 (Nat.dvd_zero _) (by omega)
    rwa [show min (0 + s) n = n by omega] at this
theorem Bl.zero (d : Array α) (s n : Nat) : Bl key d d s 0 n := ⟨rfl, Ren.refl _, fun a _ h => absurd h (by omega)⟩
theorem Bl.less {d d' : Array α} {s i j n : Nat} (h : Bl key d d' s i n) (hj : j ≤ i) : Bl key d d' s j n := ⟨h.size, h.ren, fun a ha hi => h.srt a ha (by omega)⟩

/-- the insertion sort's contract, as the blocks want it -/
def Ins (P : Program) (enc : α → List Value) (key : α → Int) (k g : Nat) (cb : Array Value) (blk off cap sz : Nat) (w0 : World) : Prop :=
  ∀ (a b : Nat) (d : Array α) (w : World), a ≤ b → b ≤ sz → d.size = sz → SWK enc k w0 blk off d w →
    Calls P 274 #[.slice (some ⟨blk, off, none⟩) sz cap, .int .i64 a, .int .i64 b, .func (.func g) #[] cb] w fun e w' => e = .returned (.tuple #[]) ∧ ∃ d', MerR key d d' a b ∧ SWK enc k w0 blk off d' w'

set_option maxHeartbeats 8000000 in
set_option maxRecDepth 1000000 in
theorem stable_any {P : Program} {k : Nat} (L : SL P k) (enc : α → List Value) (cf : α → α → Int) (hcf : ∀ x y, cf x y < 0 ↔ key x < key y) (g : Nat) (cb : Array Value) (blk off cap sz : Nat) (d0 d : Array α) (w0 w : World)
    (eg : ∀ args w, (callFunc g args).run P w = .ok (.enter g args) w) (hcmp : CmpLays P g cb enc k cf blk off sz w0)
    (R : RowK enc k w0 blk off d0) (hs : d0.size = sz) (hd : d.size = sz) (S : SWK enc k w0 blk off d w) (hsz : sz < 1152921504606846976) (hins : Ins P enc key k g cb blk off cap sz w0)
    (ei : ∀ args w, (callFunc 274 args).run P w = .ok (.enter 274 args) w) :
    Calls P 262 #[.slice (some ⟨blk, off, none⟩) sz cap, .int .i64 sz, .func (.func g) #[] cb] w fun e w' => e = .returned (.tuple #[]) ∧ ∃ d', d'.size = sz ∧ Srt key (sg d' 0 sz) ∧ Ren key (sg d 0 sz) (sg d' 0 sz) ∧ SWK enc k w0 blk off d' w' := by
  have hsym := sym_all L enc cf hcf g cb blk off cap sz d0 w0 eg hcmp R hs (by omega) (sz + 1)
  obtain ⟨mixed, FS, FR, FM, FG, aE, zE, t0, a0, z0, v0, ti, ai, zi, vi, tb, ab, zb, vb, ts, al, zs, vs, tf, af, zf, vf, tu, au, zu, vu⟩ := L
  have em : ∀ args w, (callFunc 275 args).run P w = .ok (.enter 275 args) w := enters_of FM (by kernel_rfl) rfl
  have S0 : Aside (SWK enc k w0 blk off d w) := S
  have HS : Aside _ := hsym
  have HI : Aside _ := hins
  clear S FS FR FM hcmp hsym hins
  go_enter FG, Tryz.ntmps262
  go_wp2
  go_loopg [7, 8] (sz + 1) (fun kx s7 s8 wr => ∃ (i : Nat) (dk : Array α), s7 = .int .i64 i ∧ s8 = .int .i64 ((i + 20 : Nat) : Int) ∧ i ≤ sz ∧ sz + 1 - i ≤ kx ∧ dk.size = sz ∧ Aside (SWK enc k w0 blk off dk wr) ∧ Hid (20 ∣ i) ∧ Hid (Bl key d dk 20 i sz))
  case atStart => exact ⟨0, d, rfl, rfl, by omega, by omega, hd, S0, Nat.dvd_zero _, Bl.zero d 20 sz⟩
  case round =>
    clear S0
    obtain ⟨i, dk, rfl, rfl, hi, hkx, hds, S1, HD, HB⟩ := hrel
    by_cases hlt : i + 20 ≤ sz
    · have hltz : ((i + 20 : Nat) : Int) ≤ (sz : Int) := by omega
      have hltz2 : (i : Int) + 20 ≤ (sz : Int) := by omega
      have hcall := HI.out i (i + 20) dk wr (by omega) hlt hds S1.out
      clear S1
      go_wp2_with (go_at_fn 274; refine hcall.mono ?_; rintro e1 w1 ⟨rfl, d1, H1, S2⟩)
      go_roundg (sz + 1 - (i + 20))
      case measure => omega
      case rel =>
        refine ⟨i + 20, d1, by first | rfl | go_num, by first | rfl | go_num | (congr 1; omega), hlt, by omega, H1.size.trans hds, S2, (Nat.dvd_add HD.out (Nat.dvd_refl _)), HB.out.step HD.out (by omega) (by omega) hi H1⟩
    · have hltz : ¬ ((i + 20 : Nat) : Int) ≤ (sz : Int) := by omega
      have hltz2 : ¬ (i : Int) + 20 ≤ (sz : Int) := by omega
      have hcall := HI.out i sz dk wr hi (Nat.le_refl _) hds S1.out
      clear S1
      go_wp2_with (go_at_fn 274; refine hcall.mono ?_; rintro e1 w1 ⟨rfl, d1, H1, S2⟩)
      have HB1 : Hid (Bl key d d1 20 sz sz) := (HB.out.step HD.out (by omega) (by omega) hi H1).less (by omega)
      have hd1 : d1.size = sz := H1.size.trans hds
      have S3 : Aside (SWK enc k w0 blk off d1 w1) := S2
      clear HB HD H1 S2 hds
      go_loopg [6, 7, 8, 9] sz (fun kx s6 s7 s8 s9 wr => ∃ (s : Nat) (dk : Array α), s6 = .int .i64 s ∧ 0 < s ∧ s ≤ 2 * sz + 20 ∧ sz - s ≤ kx ∧ dk.size = sz ∧ Aside (SWK enc k w0 blk off dk wr) ∧ Hid (Bl key d dk s sz sz))
      case atStart => exact ⟨20, d1, rfl, by omega, by omega, by omega, hd1, S3, HB1⟩
      case round =>
        clear S3 HB1 hd1 hcall
        obtain ⟨s, dk, rfl, hs0, hs2, hkx2, hds, S1, HB⟩ := hrel
        by_cases hlt3 : s < sz
        · have hltz3 : (s : Int) < (sz : Int) := by omega
          go_wp2_with fail
          go_loopg [7, 8] (sz + 1) (fun kx s7 s8 wr => ∃ (i : Nat) (dj : Array α), s7 = .int .i64 i ∧ s8 = .int .i64 ((i + 2 * s : Nat) : Int) ∧ i ≤ sz ∧ sz + 1 - i ≤ kx ∧ dj.size = sz ∧ Aside (SWK enc k w0 blk off dj wr) ∧ Hid (2 * s ∣ i) ∧ Hid (Mg key d dj s i sz))
          case atStart => exact ⟨0, dk, rfl, by first | rfl | go_num | (congr 1; omega), by omega, by omega, hds, S1, Nat.dvd_zero _, Mg.start HB.out⟩
          case round =>
            clear S1 HB hds
            obtain ⟨i, dj, rfl, rfl, hi, hkx3, hds, S1, HD, HB⟩ := hrel
            by_cases hlt : i + 2 * s ≤ sz
            · have hltz : ((i + 2 * s : Nat) : Int) ≤ (sz : Int) := by omega
              have hltz2 : (i : Int) + 2 * (s : Int) ≤ (sz : Int) := by omega
              have hds2 : s ∣ i := Nat.dvd_trans (Nat.dvd_mul_left s 2) HD.out
              have hcall := HS.out i (i + s) (i + 2 * s) dj wr (by omega) (by omega) (by omega) hlt hds S1.out (by have := HB.out.todo i hds2 (Nat.le_refl _) (by omega); rwa [show min (i + s) sz = i + s by omega] at this)
                (by have := HB.out.todo (i + s) (Nat.dvd_add hds2 (Nat.dvd_refl _)) (by omega) (by omega); rwa [show min (i + s + s) sz = i + 2 * s by omega] at this) i ((i : Int) + s) ((i : Int) + 2 * s) rfl (by omega) (by omega)
              have HS0 : Hid (s ∣ i) := hds2
              clear S1 hds2
              go_wp2_with (go_at_fn 275; refine hcall.mono ?_; rintro e1 w1 ⟨rfl, d1, H1, S2⟩)
              go_roundg (sz + 1 - (i + 2 * s))
              case measure => omega
              case rel =>
                refine ⟨i + 2 * s, d1, by first | rfl | go_num | (congr 1; omega), by first | rfl | go_num | (congr 1; omega), hlt, by omega, H1.size.trans hds, S2, Nat.dvd_add HD.out (Nat.dvd_refl _), HB.out.step HD.out hs0 (by omega) (by omega) H1⟩
            · have hltz : ¬ ((i + 2 * s : Nat) : Int) ≤ (sz : Int) := by omega
              have hltz2 : ¬ (i : Int) + 2 * (s : Int) ≤ (sz : Int) := by omega
              by_cases hm : i + s < sz
              · have hmz : (i : Int) + (s : Int) < (sz : Int) := by omega
                have hds2 : s ∣ i := Nat.dvd_trans (Nat.dvd_mul_left s 2) HD.out
                have hcall := HS.out i (i + s) sz dj wr (by omega) (by omega) (by omega) (Nat.le_refl _) hds S1.out (by have := HB.out.todo i hds2 (Nat.le_refl _) (by omega); rwa [show min (i + s) sz = i + s by omega] at this)
                  (by have := HB.out.todo (i + s) (Nat.dvd_add hds2 (Nat.dvd_refl _)) (by omega) (by omega); rwa [show min (i + s + s) sz = sz by omega] at this) i ((i : Int) + s) sz rfl (by omega) rfl
                have HS0 : Hid (s ∣ i) := hds2
                clear S1 hds2
                go_wp2_with (go_at_fn 275; refine hcall.mono ?_; rintro e1 w1 ⟨rfl, d1, H1, S2⟩)
                go_roundg (sz - 2 * s)
                case measure => omega
                case rel =>
                  exact ⟨2 * s, d1, by first | rfl | go_num | (congr 1; omega), by omega, by omega, by omega, H1.size.trans hds, S2,
                    (HB.out.step (e := sz) HD.out hs0 hm (by omega) H1).finish (by omega) (Nat.dvd_add HD.out (Nat.dvd_refl _)) hs0⟩
              · have hmz : ¬ (i : Int) + (s : Int) < (sz : Int) := by omega
                go_wp2
                go_roundg (sz - 2 * s)
                case measure => omega
                case rel =>
                  exact ⟨2 * s, dj, by first | rfl | go_num | (congr 1; omega), by omega, by omega, by omega, hds, S1, HB.out.finish (by omega) HD.out hs0⟩
        · have hltz3 : ¬ (s : Int) < (sz : Int) := by omega
          go_wp2
          go_end0
          exact ⟨rfl, dk, hds, HB.out.all (by omega), HB.out.ren, S1.out⟩
end Go.Proofs.YtpchhfhmopmagaaGreat.So

/- slices.SortStableFunc at classes: the comparing closure of class.Sorted, the insertion sort off the shelf, the whole. -/
namespace Go.Proofs.YtpchhfhmopmagaaGreat.So
open Go.Shelf Go.RowKit Go.Lib Go.Sort Cl
def Tryz.insK_ren : Go.Shelf.Ren := ⟨fun | 20 => 274 | n => n, fun | 24 => 84 | 22 => 22 | 3 => 3 | 25 => 245 | 4 => 4 | 0 => 0 | n => n, fun | n => n⟩
theorem Tryz.insK : Go.Proofs.SlLaysF0.n20 Tryz.prog Tryz.insK_ren := {
  mixed := by kernel_rfl
  f20 := ⟨Tryz.f274.name, by decide, Tryz.func274.trans (congrArg some (by kernel_rfl))⟩
  t0 := Tryz.underlying0
  a0 := Tryz.isAgg0
  z0 := Tryz.sizeOf0
  v0 := Tryz.zeroValue0
  t3 := Tryz.underlying3
  a3 := Tryz.isAgg3
  z3 := Tryz.sizeOf3
  v3 := Tryz.zeroValue3
  t4 := Tryz.underlying4
  a4 := Tryz.isAgg4
  z4 := Tryz.sizeOf4
  v4 := Tryz.zeroValue4
  t22 := Tryz.underlying22
  a22 := Tryz.isAgg22
  z22 := Tryz.sizeOf22
  v22 := Tryz.zeroValue22
  t25 := Tryz.underlying245
  a25 := Tryz.isAgg245
  z25 := Tryz.sizeOf245
  v25 := Tryz.zeroValue245 }

instance : Inhabited Cls := ⟨⟨0, 0, 0, 0, 0, 0, 0, 0, 0, false, false⟩⟩
def cmpI (x y : Cls) : Int := if x.id < y.id then -1 else if x.id > y.id then 1 else 0
theorem cmpI_lt (x y : Cls) : cmpI x y < 0 ↔ x.id < y.id := by
  unfold cmpI
  split
  · simp; assumption
  · split <;> constructor <;> intro h <;> omega

theorem isNaN_i (x : Int) (w : World) : Calls Tryz.prog 193 #[.int .i64 x] w fun e w' => e = .returned (.bool false) ∧ w' = w := by
  go_enter Tryz.func193, Tryz.ntmps193
  go_wp2
  go_ret
  exact ⟨rfl, rfl⟩
theorem compare_i (x y : Int) (w : World) : Calls Tryz.prog 106 #[.int .i64 x, .int .i64 y] w fun e w' => e = .returned (.int .i64 (if x < y then -1 else if x > y then 1 else 0)) ∧ w' = w := by
  go_enter Tryz.func106, Tryz.ntmps106
  by_cases h1 : x < y
  · go_wp2_with (go_at_call 193; refine (isNaN_i _ _).mono ?_; rintro e w' ⟨rfl, rfl⟩)
    go_ret
    exact ⟨rfl, rfl⟩
  · by_cases h2 : y < x
    · go_wp2_with (go_at_call 193; refine (isNaN_i _ _).mono ?_; rintro e w' ⟨rfl, rfl⟩)
      go_ret
      exact ⟨rfl, rfl⟩
    · go_wp2_with (go_at_call 193; refine (isNaN_i _ _).mono ?_; rintro e w' ⟨rfl, rfl⟩)
      go_ret
      exact ⟨rfl, rfl⟩
theorem closure (x y : Cls) (w : World) : Calls Tryz.prog 189 #[x.agg, y.agg] w fun e w' => e = .returned (.int .i64 (cmpI x y)) ∧ ∃ q os', w' = grow (w.drewN q) os' := by
  have hcon := fun W' => compare_i x.id y.id W'
  unfold cmpI
  generalize (if x.id < y.id then (-1 : Int) else if x.id > y.id then 1 else 0) = r at hcon ⊢
  unfold Cls.agg
  go_enter Tryz.func189, Tryz.ntmps189
  go_wp2_with (go_at_call 106; refine (hcon _).mono ?_; rintro e w' ⟨rfl, rfl⟩)
  go_ret
  exact ⟨rfl, 0, _, by rw [alloc_eq_grow, alloc_eq_grow, grow_grow]; rfl⟩

abbrev wk (w : World) (blk off m : Nat) (d : Array Cls) (os : Array Obj) : World := sortWorldK Cls.cells 11 w blk off m d os
theorem cells_len (x : Cls) : (Cls.cells x).length = 11 := rfl
theorem cells_one (x : Cls) : ∀ v ∈ Cls.cells x, v.oneCell' = true := by
  intro v hv; simp [Cls.cells] at hv; rcases hv with rfl | rfl | rfl | rfl | rfl | rfl | rfl | rfl | rfl | rfl | rfl <;> rfl
theorem lays (blk off size : Nat) (w : World) : CmpLays Tryz.prog 189 #[] Cls.cells 11 cmpI blk off size w :=
  fun _ _ _ _ x y => closure x y _
theorem eg_i : ∀ args w, (callFunc 189 args).run Tryz.prog w = .ok (.enter 189 args) w := enters_of Tryz.func189 (by kernel_rfl) rfl
theorem rowK {w0 : World} {blk off : Nat} {d0 : Array Cls} (h : HoldsK Cls.cells 11 w0 blk off d0) (hb : blk < w0.heap.size) : RowK Cls.cells 11 w0 blk off d0 := ⟨cells_len, cells_one, h, hb⟩
theorem ins_i (blk off cap sz : Nat) (w0 : World) (d0 : Array Cls) (R : RowK Cls.cells 11 w0 blk off d0) (hs : d0.size = sz) (hsz : sz < 1152921504606846976) :
    Ins Tryz.prog Cls.cells Cls.id 11 189 #[] blk off cap sz w0 := fun a b d w hab hb hd S => by
  have hcon := AnyQ.insertionSortCmpFunc Tryz.insK 11 Tryz.isAgg84 Tryz.sizeOf84 Cls.cells cells_len cells_one cmpI 189 #[] blk off cap a b d w eg_i (lays _ _ _ _) (S.holds R.hblk R.hH (by omega)) (S.lt R.hblk) hab (by omega) (by omega)
  change Calls Tryz.prog 274 _ _ _ at hcon
  rw [hd] at hcon
  refine hcon.mono fun e w' ⟨he, n, os, hw⟩ => ⟨he, _, ins_mer cmpI_lt d hab (by omega), ?_⟩
  rw [hw]
  exact S.on R.hblk _ _ _ (ins_mer cmpI_lt d hab (by omega)).size

/-- slices.SortStableFunc over class.Sorted's closure, at a slice that lies in a block -/
theorem sortStable {w : World} {blk off cap : Nat} {d : Array Cls} (h : HoldsK Cls.cells 11 w blk off d) (hb : blk < w.heap.size) (hsz : d.size < 1152921504606846976) :
    Calls Tryz.prog 234 #[.slice (some ⟨blk, off, none⟩) d.size cap, .func (.func 189) #[] #[]] w fun e w' =>
      e = .returned (.tuple #[]) ∧ ∃ d', d'.size = d.size ∧ Srt Cls.id d'.toList ∧ Ren Cls.id d.toList d'.toList ∧ SWK Cls.cells 11 w blk off d' w' := by
  have R := rowK h hb
  have hcon := stable_any sl Cls.cells cmpI cmpI_lt 189 #[] blk off cap d.size d d w w eg_i (lays _ _ _ _) R rfl rfl (SWK.start h) hsz (ins_i blk off cap d.size w d R rfl hsz) (Bears.enters Tryz.insK.f20 rfl)
  go_enter Tryz.func234, Tryz.ntmps234
  go_wp2_with (go_at_call 262; refine hcon.mono ?_; rintro e w' ⟨rfl, d', h1, h2, h3, h4⟩)
  go_end0
  refine ⟨rfl, d', h1, ?_, ?_, h4⟩
  · rw [← sg_all d', h1]; exact h2
  · rw [← sg_all d', ← sg_all d, h1]; exact h3
end Go.Proofs.YtpchhfhmopmagaaGreat.So

/- slices.Values over classes: the iterator. -/
namespace Go.Proofs.YtpchhfhmopmagaaGreat.So
open Go.RowKit Go.Shelf Cl Wd
attribute [local go_sem] Oper.semAt_some run_store_float

/-- the slice value sv holds the classes zs, in a block below n₀; or it is nil and there are none -/
def Holds (n₀ : Nat) (W : World) (sv : Value) (zs : List Cls) : Prop :=
  (sv = .slice none 0 0 ∧ zs = []) ∨ ∃ b off cap, sv = .slice (some ⟨b, off, none⟩) zs.length cap ∧ b < n₀ ∧ ∀ (j : Nat) (x : Cls), zs[j]? = some x → ∀ (i : Nat) (v : Value), x.cells[i]? = some v → W.cell? ⟨b, off + j * 11 + i, none⟩ = some v
theorem Holds.below {n₀ : Nat} {A B : World} (h : Below n₀ A B) {sv : Value} {zs : List Cls} : Holds n₀ A sv zs → Holds n₀ B sv zs
  | .inl e => .inl e
  | .inr ⟨b, off, cap, e, hb, hc⟩ => .inr ⟨b, off, cap, e, hb, fun j x hx i v hv => (h.cell (p := ⟨b, off + j * 11 + i, none⟩) hb).trans (hc j x hx i v hv)⟩

set_option maxRecDepth 100000 in
set_option maxHeartbeats 4000000 in
theorem values1_in (F : Fence) (n : Nat) (h7 : F.fn 235) (hro : F.round = none) (hn : 1 ≤ n) (l Bs n₀ b off cap : Nat) (zs : List Cls) (hreach : zs.length ≤ 1048576) (hb : b < n₀) (J Jx : List Cls → World → Prop)
    (hY : ∀ pre x W, J pre W → pre.length < zs.length → YieldAt F (n - 1) Tryz.prog l #[x.agg] W fun e W' =>
      (e = .returned (.bool true) ∧ J (pre ++ [x]) W' ∧ Below n₀ W W') ∨ (e = .returned (.bool false) ∧ Jx (pre ++ [x]) W'))
    (W : World) (hn₀ : n₀ ≤ W.heap.size) (hJ : AbidesFrom W.heap.size J) (hBs : W.cell? ⟨Bs, 0, none⟩ = some (.slice (some ⟨b, off, none⟩) zs.length cap))
    (hc : ∀ (j : Nat) (x : Cls), zs[j]? = some x → ∀ (i : Nat) (v : Value), x.cells[i]? = some v → W.cell? ⟨b, off + j * 11 + i, none⟩ = some v) (h0 : J [] W) :
    CallsIn F n Tryz.prog 235 #[.func (.yield l) #[] #[], .pointer (some ⟨Bs, 0, none⟩)] W fun e W' => (∃ v, e = .returned v) ∧
      (J zs W' ∨ (∃ pre, pre <+: zs ∧ Jx pre W')) := by
  refine callsIn_of_wp Tryz.func235 rfl h7 ?_ hro
  simp only [Tryz.ntmps235, List.size_toArray, List.length_cons, List.length_nil, Nat.reduceAdd, Nat.reduceSub, Array.replicate_succ, Array.replicate_zero, List.push_toArray, List.append_toArray, List.nil_append, List.cons_append]
  gi_wp2
  gi_loopw [7] (fun i wr => ∃ k : Nat, k ≤ zs.length ∧ i = .int .i64 k ∧ J (zs.take k) wr ∧ Below n₀ W wr)
    (fun i _ => zs.length - (intOf i).toNat)
  case atStart => exact ⟨0, Nat.zero_le _, rfl, by simpa using h0, Below.refl _ _⟩
  case round =>
    obtain ⟨k, hk, rfl, hJs, hnx⟩ := hrel
    by_cases hlt : k < zs.length
    · obtain ⟨x, hx⟩ : ∃ x, zs[k]? = some x := ⟨zs[k], List.getElem?_eq_getElem hlt⟩
      have hcx : ∀ (i : Nat) (v : Value), x.cells[i]? = some v → wr.cell? ⟨b, off + k * 11 + i, none⟩ = some v := fun i v hv => (hnx.cell (p := ⟨b, off + k * 11 + i, none⟩) hb).trans (hc k x hx i v hv)
      have c0 : wr.cell? ⟨b, off + k * 11, none⟩ = some (.int .i64 x.id) := hcx 0 _ rfl; have c1 := hcx 1 _ rfl; have c2 := hcx 2 _ rfl; have c3 := hcx 3 _ rfl; have c4 := hcx 4 _ rfl; have c5 := hcx 5 _ rfl
      have c6 := hcx 6 _ rfl; have c7 := hcx 7 _ rfl; have c8 := hcx 8 _ rfl; have c9 := hcx 9 _ rfl; have c10 := hcx 10 _ rfl
      have hJ2 : J (zs.take k) (wr.alloc (.cells #[.int .i64 x.id, .int .i64 x.parent, .float .f64 x.share, .int .i64 x.prio, .int .i64 x.quantum, .int .i64 x.limit, .int .i64 x.weight, .int .i64 x.minIdle, .int .i64 x.maxIdle, .bool x.bounded, .bool x.isolated] 84)) :=
        hJ _ wr _ none hJs (World.grownBy_alloc wr _ none) (fun r e => by cases e)
      obtain ⟨fn, tmps, assign, body, hy, hR⟩ := hY _ x _ hJ2 (by rw [List.length_take]; omega)
      dsimp only [Cls.agg] at hy
      have hnx2 := hnx.alloc (Nat.le_trans hn₀ hnx.size) (.cells #[.int .i64 x.id, .int .i64 x.parent, .float .f64 x.share, .int .i64 x.prio, .int .i64 x.quantum, .int .i64 x.limit, .int .i64 x.weight, .int .i64 x.minIdle, .int .i64 x.maxIdle, .bool x.bounded, .bool x.isolated] 84)
      gi_wp2
      refine hR.mono ?_
      rintro e W3 (⟨rfl, hJ3, hk3⟩ | ⟨rfl, hJx3⟩)
      · gi_wp2
        go_roundw
        case rel => exact ⟨k + 1, by omega, by simp, by rw [List.take_add_one, hx]; exact hJ3, hnx2.trans hk3⟩
        case measure => simp [intOf]; omega
      · gi_wp2
        refine bodyPost_ret (results_none rfl _ _ _) rfl ?_
        exact ⟨⟨_, rfl⟩, .inr ⟨_, by rw [show zs.take k ++ [x] = zs.take (k + 1) by rw [List.take_add_one, hx]; rfl]; exact List.take_prefix _ _, hJx3⟩⟩
    · obtain rfl : k = zs.length := by omega
      gi_wp2
      go_end0
      exact ⟨⟨_, rfl⟩, .inl (by simpa using hJs)⟩

set_option maxRecDepth 100000 in
set_option maxHeartbeats 1000000 in
theorem values1_nil_in (F : Fence) (n : Nat) (h7 : F.fn 235) (hro : F.round = none) (l Bs : Nat) (J : List Cls → World → Prop) (W : World) (hBs : W.cell? ⟨Bs, 0, none⟩ = some (.slice none 0 0)) (h0 : J [] W) :
    CallsIn F n Tryz.prog 235 #[.func (.yield l) #[] #[], .pointer (some ⟨Bs, 0, none⟩)] W fun e W' => (∃ v, e = .returned v) ∧ J [] W' := by
  refine callsIn_of_wp Tryz.func235 rfl h7 ?_ hro
  simp only [Tryz.ntmps235, List.size_toArray, List.length_cons, List.length_nil, Nat.reduceAdd, Nat.reduceSub, Array.replicate_succ, Array.replicate_zero, List.push_toArray, List.append_toArray, List.nil_append, List.cons_append]
  gi_wp2
  gi_loopw [7] (fun i wr => i = .int .i64 0 ∧ J [] wr) (fun _ _ => 0)
  case atStart => exact ⟨rfl, h0⟩
  case round =>
    obtain ⟨rfl, hJs⟩ := hrel
    gi_wp2
    go_end0
    exact ⟨⟨_, rfl⟩, hJs⟩

set_option maxHeartbeats 1000000 in
/-- slices.Values(s): the slice value is boxed; the function value captures the box. -/
theorem values_c (a : Option Addr) (len cap : Nat) (w : World) :
    Calls Tryz.prog 188 #[.slice a len cap] w fun e w' => e = .returned (.func (.func 235) #[] #[.pointer (some ⟨w.heap.size, 0, none⟩)]) ∧ w' = w.alloc (.cells #[.slice a len cap] 22) := by
  go_enter Tryz.func188, Tryz.ntmps188
  go_wp2
  go_ret
  exact ⟨rfl, rfl⟩

/-- slices.Values's value: all of zs, in order; or a prefix -/
theorem values_stops (F : Fence) (n : Nat) (h7 : F.fn 235) (hro : F.round = none) (hn : 1 ≤ n) (Bs n₀ : Nat) (sv : Value) (zs : List Cls) (hreach : zs.length ≤ 1048576) (w : World) (hBs : Bs < w.heap.size) (hn₀ : n₀ ≤ w.heap.size)
    (hc : w.cell? ⟨Bs, 0, none⟩ = some sv) (hI : Holds n₀ w sv zs) :
    SeqStopsK F n Tryz.prog 235 #[.pointer (some ⟨Bs, 0, none⟩)] (fun x : Cls => #[x.agg]) (Below n₀) (fun ys => ys = zs) (fun pre => pre <+: zs) zs.length w := fun l J Jx W hW hJ _ hY h0 => by
  have hc' := (hW.cell (p := ⟨Bs, 0, none⟩) hBs).trans hc
  rcases hI.below (hW.mono hn₀) with ⟨rfl, rfl⟩ | ⟨b, off, cap, rfl, hb, hcs⟩
  · exact (values1_nil_in F n h7 hro l Bs J W hc' h0).mono fun e W' ⟨he, hj⟩ => ⟨he, .inl ⟨_, rfl, hj⟩⟩
  · refine (values1_in F n h7 hro hn l Bs n₀ b off cap zs hreach hb J Jx hY W (Nat.le_trans hn₀ hW.size) hJ hc' hcs h0).mono ?_
    rintro e W' ⟨he, hj | ⟨pre, hp, hj⟩⟩
    · exact ⟨he, .inl ⟨_, rfl, hj⟩⟩
    · exact ⟨he, .inr ⟨_, hp, hj⟩⟩
end Go.Proofs.YtpchhfhmopmagaaGreat.So

/- slices.AppendSeq(nil, slices.Values(l)) over classes; slices.Collect. -/
namespace Go.Proofs.YtpchhfhmopmagaaGreat.So
open Go.RowKit Go.Shelf Cl Wd
attribute [local go_sem] Oper.semAt_some run_store_float

theorem class_info : (Tryz.prog.info? 84).map (fun i => (i.zero, i.size, i.bytes)) = some (some (.agg #[.int .i64 0, .int .i64 0, .float .f64 0, .int .i64 0, .int .i64 0, .int .i64 0, .int .i64 0, .int .i64 0, .int .i64 0, .bool false, .bool false]), 11, 80) := by kernel_rfl
theorem row_own {β : Type} (B : Nat) (e : TypeId) (cs : β → List Value) : Own (fun s W => Row W B e (cs s)) := fun s X Y row hs hg hrow =>
  (hg.block B hs.lt (fun e' => by obtain ⟨o, ho, hc⟩ := hrow B e'.symm; rw [show X.heap[B]? = _ from hs] at ho; cases ho; cases hc)).trans hs

theorem new_cells (W : World) (x : Cls) : ∀ j u, x.cells[j]? = some u → (W.alloc (.cells #[.int .i64 x.id, .int .i64 x.parent, .float .f64 x.share, .int .i64 x.prio, .int .i64 x.quantum, .int .i64 x.limit, .int .i64 x.weight, .int .i64 x.minIdle, .int .i64 x.maxIdle, .bool x.bounded, .bool x.isolated] 84)).cell? ((⟨W.heap.size, 0, none⟩ : Addr).add j) = some u := fun j u hu => by
  rw [add_zero_at]
  exact ((row_new W 84 x.cells).cell j).trans hu

set_option maxRecDepth 100000 in
set_option maxHeartbeats 4000000 in
theorem appendSeq_in (F : Fence) (n : Nat) (h3 : F.fn 261) (h5 : F.fn 235) (hro : F.round = none) (hn : 6 ≤ n)
    (Bv : Nat) (sv : Value) (zs : List Cls) (hreach : zs.length ≤ 1048576) (w : World) (hBv : Bv < w.heap.size) (hc : w.cell? ⟨Bv, 0, none⟩ = some sv) (hI : Holds w.heap.size w sv zs) :
    CallsIn F n Tryz.prog 261 #[.slice none 0 0, .func (.func 235) #[] #[.pointer (some ⟨Bv, 0, none⟩)]] w fun e w' =>
      ∃ v, e = .returned v ∧ w'.ownsRow w.heap.size 84 11 v zs.length (zs.flatMap Cls.cells) ∧ Below w.heap.size w w' := by
  have h1 : 1 ≤ n := by omega
  obtain ⟨i0, hi, hz0, hz1, hz2⟩ := info_parts class_info
  refine callsIn_of_wp_marks Tryz.func261 rfl h3 ?_ hro
  simp only [Tryz.ntmps261, List.size_toArray, List.length_cons, List.length_nil, Nat.reduceAdd, Nat.reduceSub, Array.replicate_succ, Array.replicate_zero, List.push_toArray, List.append_toArray, List.nil_append, List.cons_append]
  gi_wp2
  have bS := Boxed.new w 22 (.slice none 0 0)
  have hB0 : Below w.heap.size w (w.alloc (.cells #[.slice none 0 0] 22)) := (Below.refl _ w).alloc (Nat.le_refl _) _
  have hsz : (w.alloc (.cells #[.slice none 0 0] 22)).heap.size = w.heap.size + 1 := by simp
  obtain ⟨W0, hW0⟩ : ∃ W0, w.alloc (.cells #[.slice none 0 0] 22) = W0 := ⟨_, rfl⟩
  rw [hW0] at bS hB0 hsz ⊢
  clear hW0
  refine wpIn_rangeFunc_ownH hro h1 (gf := 235) (lb := #[.pointer (some ⟨Bv, 0, none⟩)]) rfl h5 (enters_of Tryz.func235 (by kernel_rfl) rfl)
    (values_stops F (n - 1) h5 hro (by omega) Bv w.heap.size sv zs hreach W0 (by omega) (by omega) ((hB0.cell (p := ⟨Bv, 0, none⟩) hBv).trans hc) (hI.below hB0)) belowK_t (belowK_b (by omega)) (Below.refl _ _) (fun _ => rfl)
    (fun pre W => (∃ v, Boxed W w.heap.size 22 v ∧ W.ownsRow w.heap.size 84 11 v pre.length (pre.flatMap Cls.cells) ∧ True) ∧ Below w.heap.size w W)
    (fun _ _ _ => False)
    (OwnFrom.and (Own.from (holdsRow_own w.heap.size w.heap.size 22 84 11 (fun pre : List Cls => pre.length) (fun pre => pre.flatMap Cls.cells) (fun _ _ => True)) _) (ownFrom_below (Nat.le_refl _) (by omega)))
    (fun _ _ _ _ _ hs _ _ => hs)
    ⟨⟨_, bS, World.ownsRow_nil .., trivial⟩, hB0⟩
    (fun x a' W => ∃ Bx, w.heap.size < Bx ∧ Row W Bx 84 x.cells ∧ a' = { tmps := #[.slice none 0 0, .func (.func 235) #[] #[.pointer (some ⟨Bv, 0, none⟩)], .pointer (some ⟨w.heap.size, 0, none⟩), undef, .slice none 0 0, .pointer (some ⟨Bx, 0, none⟩), .func (.func 235) #[] #[.pointer (some ⟨Bv, 0, none⟩)], x.agg, undef, undef, undef, undef, undef], defers := [] })
    (fun x a' _ X Y row hs hg hr => by obtain ⟨Bx, h1, h2, h3⟩ := hs; exact ⟨Bx, h1, row_own Bx _ (fun (_ : Unit) => x.cells) () X Y row h2 hg (fun r e => (hr r e).2), h3⟩)
    ?assign ?body ?done ?stop
  case assign =>
    rintro l pre x W K ⟨⟨v, bS1, hr1, _⟩, hB1⟩ hK
    gi_wp2
    exact hK _ _ ((KeepsOthers.alloc _ _).from _) ((Below.refl _ W).alloc hB1.size _) ⟨⟨v, bS1.alloc _, hr1.alloc _, trivial⟩, hB1.alloc hB1.size _⟩ ⟨W.heap.size, bS1.lt, row_new W _ x.cells, rfl⟩
  case body =>
    rintro l pre x a' W hl ⟨r, hr⟩ ⟨⟨v, hv, hrow, _⟩, hB⟩ ⟨Bx, hBx, bX, rfl⟩ hlt
    have cB := hv.cell
    have cf := hv.frozen
    have c0 : W.cell? ⟨Bx, 0, none⟩ = some (.int .i64 x.id) := bX.cell 0
    have c1 : W.cell? ⟨Bx, 1, none⟩ = some (.int .i64 x.parent) := bX.cell 1
    have c2 : W.cell? ⟨Bx, 2, none⟩ = some (.float .f64 x.share) := bX.cell 2
    have c3 : W.cell? ⟨Bx, 3, none⟩ = some (.int .i64 x.prio) := bX.cell 3
    have c4 : W.cell? ⟨Bx, 4, none⟩ = some (.int .i64 x.quantum) := bX.cell 4
    have c5 : W.cell? ⟨Bx, 5, none⟩ = some (.int .i64 x.limit) := bX.cell 5
    have c6 : W.cell? ⟨Bx, 6, none⟩ = some (.int .i64 x.weight) := bX.cell 6
    have c7 : W.cell? ⟨Bx, 7, none⟩ = some (.int .i64 x.minIdle) := bX.cell 7
    have c8 : W.cell? ⟨Bx, 8, none⟩ = some (.int .i64 x.maxIdle) := bX.cell 8
    have c9 : W.cell? ⟨Bx, 9, none⟩ = some (.bool x.bounded) := bX.cell 9
    have c10 : W.cell? ⟨Bx, 10, none⟩ = some (.bool x.isolated) := bX.cell 10
    gi_wp2_with (gi_at_builtin; go_must (refine wpListIn_append_own _ rfl _ _ 22 rfl w.heap.size 84 i0 _ 11 80 Tryz.underlying22 hi hz0 hz1 hz2 rfl (by decide) _ _ _ rfl (hrow.alloc _) ⟨W.heap.size, 0, none⟩ 1 1 x.cells rfl rfl (new_cells W x) (cells_one x) (by unfold maxLen; omega) (by omega) (by have := hB.size; simp; omega) ?_); intro v' w1 hown' hgrow _; obtain ⟨g', cap', rfl⟩ := ownsRow_succ hown'; obtain ⟨hv1, hv2, hr2, hk2, hb2⟩ := hv.appended (by decide) hrow hB.size (Nat.le_refl _) hown' hgrow; have hc1 := hv1.cell; have hf1 := hv1.frozen)
    exact ⟨hk2.from _, hb2, ⟨_, hv2, by simpa using hr2, trivial⟩, hB.trans hb2⟩
  case done =>
    rintro D ys W hD rfl ⟨⟨v, hv, hrow, _⟩, hB⟩ hK
    have cS := hv.cell
    gi_wp2
    refine ⟨by simp, .inl ⟨_, _, rfl, run_takeDeferred hK, ?_⟩⟩
    exact ⟨_, results_tmp rfl _ _ _, v, rfl, ownsRow_putObj hrow _ hK rfl, hB.trans (belowK_b (w := w) (Nat.le_refl _) W D _ _ (by omega) hK rfl rfl)⟩
  case stop =>
    rintro D c pre W _ _ h _
    exact h.elim
end Go.Proofs.YtpchhfhmopmagaaGreat.So

/- class.Sorted: the list sorted by id, equals in their places. -/
namespace Go.Proofs.YtpchhfhmopmagaaGreat.So
open Go.RowKit Go.Shelf Cl Wd Go.Sort

/-- one more, behind all that are not greater -/
def ins1 (l : List Cls) (x : Cls) : List Cls := l.takeWhile (fun y => decide (y.id ≤ x.id)) ++ x :: l.dropWhile (fun y => decide (y.id ≤ x.id))
/-- the list sorted by id, equals in their places -/
def sortC (l : List Cls) : List Cls := l.foldl ins1 []

theorem takeWhile_all {α : Type} (p : α → Bool) (l : List α) : ∀ a ∈ l.takeWhile p, p a = true := by
  induction l with
  | nil => simp
  | cons x l ih =>
    rw [List.takeWhile_cons]
    split
    · rename_i h; intro a ha; rcases List.mem_cons.1 ha with rfl | ha
      · exact h
      · exact ih a ha
    · simp
theorem dropWhile_gt (x : Cls) : ∀ (l : List Cls), Srt Cls.id l → ∀ b ∈ l.dropWhile (fun y => decide (y.id ≤ x.id)), x.id < b.id
  | [], _, b, hb => by simp at hb
  | y :: l, hs, b, hb => by
    rw [List.dropWhile_cons] at hb
    split at hb
    · exact dropWhile_gt x l (List.pairwise_cons.1 hs).2 b hb
    · rename_i h
      have hy : x.id < y.id := by simpa using h
      rcases List.mem_cons.1 hb with rfl | hb
      · exact hy
      · exact Int.lt_of_lt_of_le hy ((List.pairwise_cons.1 hs).1 b hb)
theorem ins1_ok {l : List Cls} (x : Cls) (h : Srt Cls.id l) : Srt Cls.id (ins1 l x) ∧ Ren Cls.id (l ++ [x]) (ins1 l x) := by
  have := ins_ok (key := Cls.id) (u := l.takeWhile (fun y => decide (y.id ≤ x.id))) (v := l.dropWhile (fun y => decide (y.id ≤ x.id))) (x := x) (by rwa [List.takeWhile_append_dropWhile])
    (fun a ha => by simpa using takeWhile_all _ l a ha) (dropWhile_gt x l h)
  rwa [List.takeWhile_append_dropWhile] at this
theorem sort_from : ∀ (l m : List Cls), Srt Cls.id m → Srt Cls.id (l.foldl ins1 m) ∧ Ren Cls.id (m ++ l) (l.foldl ins1 m)
  | [], m, h => ⟨h, by rw [List.append_nil]; exact Ren.refl _⟩
  | x :: l, m, h => by
    have h1 := ins1_ok x h
    have h2 := sort_from l (ins1 m x) h1.1
    refine ⟨h2.1, ?_⟩
    have : Ren Cls.id (m ++ x :: l) (ins1 m x ++ l) := by
      rw [show m ++ x :: l = (m ++ [x]) ++ l by simp]
      exact h1.2.append (Ren.refl _)
    exact this.trans h2.2
theorem sortC_ok (l : List Cls) : Srt Cls.id (sortC l) ∧ Ren Cls.id l (sortC l) := sort_from l [] Srt.nil
theorem sortC_uniq {l m : List Cls} (h1 : Srt Cls.id m) (h2 : Ren Cls.id l m) : m = sortC l := uniq h1 (sortC_ok l).1 (h2.symm.trans (sortC_ok l).2)
theorem sortC_len (l : List Cls) : (sortC l).length = l.length := (sortC_ok l).2.len.symm

theorem swk_below {w W : World} {blk off : Nat} {d : Array Cls} (h : SWK Cls.cells 11 w blk off d W) (n : Nat) (hn : n ≤ blk) (hw : n ≤ w.heap.size) : Below n w W := by
  obtain ⟨m, os, rfl⟩ := h
  refine ⟨rfl, rfl, rfl, ?_, fun k hk => ?_⟩
  · show w.heap.size ≤ ((putRowK Cls.cells 11 (Sort.ahead w m) blk off d).heap ++ os).size
    rw [Array.size_append, size_putRowK]; exact Nat.le_add_right _ _
  · show ((putRowK Cls.cells 11 (Sort.ahead w m) blk off d).heap ++ os)[k]? = w.heap[k]?
    rw [Array.getElem?_append_left (by rw [size_putRowK]; show k < w.heap.size; omega)]
    show (w.heap.modify blk _)[k]? = w.heap[k]?
    rw [Array.getElem?_modify, if_neg (by omega)]
end Go.Proofs.YtpchhfhmopmagaaGreat.So

/- class.Sorted: the walk. -/
namespace Go.Proofs.YtpchhfhmopmagaaGreat.So
open Go.RowKit Go.Shelf Cl Wd Go.Sort

theorem flat_get : ∀ (zs : List Cls) (t : Nat), t < zs.length * 11 → (zs.flatMap Cls.cells)[t]? = some ((Cls.cells zs.toArray[t / 11]!)[t % 11]!)
  | [], t, h => by simp at h
  | x :: zs, t, h => by
    rw [List.flatMap_cons]
    by_cases ht : t < 11
    · rw [List.getElem?_append_left (by rw [cells_len]; exact ht)]
      have e1 : t / 11 = 0 := by omega
      have e2 : t % 11 = t := by omega
      rw [e1, e2]
      have hx : ((x :: zs).toArray)[0]! = x := rfl
      rw [hx]
      rw [List.getElem?_eq_getElem (by rw [cells_len]; exact ht), getElem!_pos _ _ (by rw [cells_len]; exact ht)]
    · rw [List.getElem?_append_right (by rw [cells_len]; omega), cells_len]
      have := flat_get zs (t - 11) (by simp at h; omega)
      rw [this]
      have e1 : t / 11 = (t - 11) / 11 + 1 := by omega
      have e2 : (t - 11) % 11 = t % 11 := by omega
      rw [e1, e2]
      congr 3
      simp [getElem!_def]
theorem owns_holdsK {w : World} {g : Nat} {zs : List Cls} {cur : Array Value} {e : TypeId} (hg : w.heap[g]? = some (.cells cur e (0, 0))) (ht : cur.toList.take (zs.length * 11) = zs.flatMap Cls.cells) : HoldsK Cls.cells 11 w g 0 zs.toArray := by
  intro j hj
  rw [size_flatK] at hj
  have hj' : j < zs.length * 11 := by simpa using hj
  constructor
  · have h1 := flat_get zs j hj'
    rw [← ht, List.getElem?_take, if_pos hj'] at h1
    rw [Nat.zero_add]
    simp only [World.cell?, hg]
    have h2 : cur[j]? = some ((Cls.cells zs.toArray[j / 11]!)[j % 11]!) := by rw [← Array.getElem?_toList]; exact h1
    rw [if_neg (by simp), h2]
    simp [flatK, hj']
  · simp [World.frozen?, hg]

theorem collect_c (Bv : Nat) (sv : Value) (zs : List Cls) (hreach : zs.length ≤ 1048576) (w : World) (hBv : Bv < w.heap.size) (hc : w.cell? ⟨Bv, 0, none⟩ = some sv) (hI : Holds w.heap.size w sv zs) :
    Calls Tryz.prog 233 #[.func (.func 235) #[] #[.pointer (some ⟨Bv, 0, none⟩)]] w fun e w' =>
      ∃ v, e = .returned v ∧ w'.ownsRow w.heap.size 84 11 v zs.length (zs.flatMap Cls.cells) ∧ Below w.heap.size w w' := by
  have hcon := callsIn_wide.1 (appendSeq_in Fence.wide 10 trivial trivial rfl (by omega) Bv sv zs hreach w hBv hc hI)
  go_enter Tryz.func233, Tryz.ntmps233
  go_wp2_with (go_at_call 261; refine hcon.mono ?_; rintro e w' ⟨v, rfl, h1, h2⟩)
  go_ret
  exact ⟨v, rfl, h1, h2⟩

set_option maxRecDepth 100000 in
theorem insertion0 (A : Option Addr) (cap : Nat) (w : World) : Calls Tryz.prog 274 #[.slice A 0 cap, .int .i64 0, .int .i64 0, .func (.func 189) #[] #[]] w fun e w' => e = .returned (.tuple #[]) ∧ w' = w := by
  go_enter Tryz.func274, Tryz.ntmps274
  go_wp2
  go_loopg [8] 0 (fun _ s8 wr => s8 = .int .i64 1 ∧ wr = w)
  case atStart => exact ⟨rfl, rfl⟩
  case round =>
    obtain ⟨rfl, rfl⟩ := hrel
    go_wp2
    go_end0
    exact ⟨rfl, rfl⟩
set_option maxRecDepth 100000 in
theorem stable0 (A : Option Addr) (cap : Nat) (w : World) : Calls Tryz.prog 262 #[.slice A 0 cap, .int .i64 0, .func (.func 189) #[] #[]] w fun e w' => e = .returned (.tuple #[]) ∧ w' = w := by
  go_enter Tryz.func262, Tryz.ntmps262
  go_wp2
  go_loopg [7, 8] 0 (fun _ s7 s8 wr => s7 = .int .i64 0 ∧ s8 = .int .i64 20 ∧ wr = w)
  case atStart => exact ⟨rfl, rfl, rfl⟩
  case round =>
    obtain ⟨rfl, rfl, rfl⟩ := hrel
    go_wp2_with (go_at_call 274; refine (insertion0 _ _ _).mono ?_; rintro e w' ⟨rfl, rfl⟩)
    go_loopg [6, 7, 8, 9] 0 (fun _ s6 s7 s8 s9 wr' => s6 = .int .i64 20 ∧ wr' = w')
    case atStart => exact ⟨rfl, rfl⟩
    case round =>
      obtain ⟨rfl, rfl⟩ := hrel
      go_wp2
      go_end0
      exact ⟨rfl, rfl⟩
theorem sortStable0 (A : Option Addr) (cap : Nat) (w : World) : Calls Tryz.prog 234 #[.slice A 0 cap, .func (.func 189) #[] #[]] w fun e w' => e = .returned (.tuple #[]) ∧ w' = w := by
  go_enter Tryz.func234, Tryz.ntmps234
  go_wp2_with (go_at_call 262; refine (stable0 _ _ _).mono ?_; rintro e w' ⟨rfl, rfl⟩)
  go_end0
  exact ⟨rfl, rfl⟩
end Go.Proofs.YtpchhfhmopmagaaGreat.So

/- class.Sorted: its contract. -/
namespace Go.Proofs.YtpchhfhmopmagaaGreat.So
open Go.RowKit Go.Shelf Cl Wd Go.Sort

theorem holdsK_holds {W : World} {g cap N : Nat} {d : Array Cls} (h : HoldsK Cls.cells 11 W g 0 d) (hg : g < N) : Holds N W (.slice (some ⟨g, 0, none⟩) d.size cap) d.toList := by
  refine .inr ⟨g, 0, cap, by simp, hg, fun j x hx i v hv => ?_⟩
  obtain ⟨hj, hx'⟩ := List.getElem?_eq_some_iff.1 hx
  have hj' : j < d.size := by simpa using hj
  obtain ⟨hi, hv'⟩ := List.getElem?_eq_some_iff.1 hv
  have hi' : i < 11 := hi
  have := (h.cell (i := j) (c := i) hj' hi').1
  have e : d[j]! = x := by rw [getElem!_pos d j hj']; simpa using hx'
  rw [e, getElem!_pos x.cells i hi, hv'] at this
  exact this

/-- slices.SortStableFunc on what a call owns -/
theorem sort_owned {w : World} {base : Nat} {v : Value} {zs : List Cls} (h : w.ownsRow base 84 11 v zs.length (zs.flatMap Cls.cells)) (hb : base ≤ w.heap.size) (hn : zs.length ≤ 1048576) :
    Calls Tryz.prog 234 #[v, .func (.func 189) #[] #[]] w fun e w' =>
      e = .returned (.tuple #[]) ∧ Holds w'.heap.size w' v (sortC zs) ∧ (∀ p, v = .slice (some p) zs.length (match v with | .slice _ _ c => c | _ => 0) → base ≤ p.block) ∧ Below base w w' := by
  rcases h.2 with ⟨rfl, h0⟩ | ⟨g, cap, cur, rfl, hbg, hg, hnc, _, _, ht⟩
  · have hz : zs = [] := List.eq_nil_of_length_eq_zero h0
    subst hz
    exact (sortStable0 none 0 w).mono fun e w' ⟨he, hw⟩ => ⟨he, .inl ⟨rfl, rfl⟩, fun p hp => by simp at hp, hw ▸ Below.refl _ _⟩
  · have hH := owns_holdsK hg ht
    have hgl : g < w.heap.size := (Array.getElem?_eq_some_iff.1 hg).1
    have := sortStable (cap := cap) hH hgl (by simp; omega)
    rw [show zs.toArray.size = zs.length by simp] at this
    refine this.mono fun e w' ⟨he, d', h1, h2, h3, h4⟩ => ⟨he, ?_, fun p hp => ?_, swk_below h4 base hbg hb⟩
    · have e : d'.toList = sortC zs := sortC_uniq h2 h3
      rw [← e, show zs.length = d'.size from h1.symm]
      exact holdsK_holds (h4.holds hgl hH (by rw [h1]; simp)) (Nat.lt_of_lt_of_le hgl h4.le)
    · have := (Value.slice.inj hp).1
      cases this; exact hbg

theorem sortedStable_c (Bv : Nat) (sv : Value) (zs : List Cls) (hreach : zs.length ≤ 1048576) (w : World) (hBv : Bv < w.heap.size) (hc : w.cell? ⟨Bv, 0, none⟩ = some sv) (hI : Holds w.heap.size w sv zs) :
    Calls Tryz.prog 187 #[.func (.func 235) #[] #[.pointer (some ⟨Bv, 0, none⟩)], .func (.func 189) #[] #[]] w fun e w' =>
      ∃ v, e = .returned v ∧ Holds w'.heap.size w' v (sortC zs) ∧ Below w.heap.size w w' := by
  have h1 := collect_c Bv sv zs hreach w hBv hc hI
  have h2 := fun (v : Value) (w1 : World) (h : w1.ownsRow w.heap.size 84 11 v zs.length (zs.flatMap Cls.cells)) (hb : w.heap.size ≤ w1.heap.size) => sort_owned h hb hreach
  have H2 := Lib.hid h2
  clear h2
  go_enter Tryz.func187, Tryz.ntmps187
  go_wp2_with (first
    | (go_at_call 233; refine h1.mono ?_; rintro e w1 ⟨v, rfl, g1, b1⟩)
    | (go_at_call 234; refine (H2.out _ _ g1 b1.size).mono ?_; rintro e w2 ⟨rfl, g2, _, b2⟩))
  go_ret
  exact ⟨v, rfl, g2, b1.trans b2⟩
/-- class.Sorted -/
theorem sorted_c (A : Option Addr) (len cap : Nat) (zs : List Cls) (hreach : zs.length ≤ 1048576) (w : World) (hI : Holds w.heap.size w (.slice A len cap) zs) :
    Calls Tryz.prog 102 #[.slice A len cap] w fun e w' => ∃ v, e = .returned v ∧ Holds w'.heap.size w' v (sortC zs) ∧ Below w.heap.size w w' := by
  have hB0 : Below w.heap.size w (w.alloc (.cells #[.slice A len cap] 22)) := (Below.refl _ w).alloc (Nat.le_refl _) _
  have h1 := sortedStable_c w.heap.size (.slice A len cap) zs hreach (w.alloc (.cells #[.slice A len cap] 22)) (by simp) (by simp) (by
    rcases hI.below hB0 with h | ⟨b, off, c, e1, e2, e3⟩
    · exact .inl h
    · exact .inr ⟨b, off, c, e1, by simp; omega, e3⟩)
  go_enter Tryz.func102, Tryz.ntmps102
  go_wp2_with (first
    | (go_at_call 188; refine (values_c _ _ _ _).mono ?_; rintro e w' ⟨rfl, rfl⟩)
    | (go_at_call 187; refine h1.mono ?_; rintro e w2 ⟨v, rfl, g2, b2⟩))
  go_ret
  exact ⟨v, rfl, g2, hB0.trans (b2.mono (by simp))⟩
end Go.Proofs.YtpchhfhmopmagaaGreat.So

/- class.Find and the reference's: the first class of an id. -/
namespace Go.Proofs.YtpchhfhmopmagaaGreat.So
open Go.RowKit Go.Shelf Cl Wd

/-- the first class of the id, or -1 -/
def findC (zs : List Cls) (id : Int) : Int := match zs.findIdx? (fun x => x.id == id) with
  | some i => (i : Int)
  | none => -1
theorem findC_hit {zs : List Cls} {id : Int} {k : Nat} {x : Cls} (hx : zs[k]? = some x) (he : x.id = id) (hn : ∀ j y, j < k → zs[j]? = some y → y.id ≠ id) : findC zs id = k := by
  have : zs.findIdx? (fun x => x.id == id) = some k := by
    obtain ⟨hk, hx'⟩ := List.getElem?_eq_some_iff.1 hx
    rw [List.findIdx?_eq_some_iff_getElem]
    refine ⟨hk, by rw [hx']; simp [he], fun j hj => ?_⟩
    have := hn j zs[j] hj (List.getElem?_eq_getElem (by omega))
    simpa using this
  unfold findC; rw [this]
theorem findC_miss {zs : List Cls} {id : Int} (hn : ∀ (j : Nat) y, zs[j]? = some y → y.id ≠ id) : findC zs id = -1 := by
  have : zs.findIdx? (fun x => x.id == id) = none := by
    rw [List.findIdx?_eq_none_iff]
    intro x hx
    obtain ⟨j, hj⟩ := List.mem_iff_getElem?.1 hx
    simpa using hn j x hj
  unfold findC; rw [this]

set_option maxRecDepth 20000 in
theorem reffind_c (A : Option Addr) (len cap N : Nat) (zs : List Cls) (id : Int) (hlen : zs.length ≤ 1048576) (w : World) (hI : Holds N w (.slice A len cap) zs) :
    Calls Tryz.prog 72 #[.slice A len cap, .int .i64 id] w fun e w' => e = .returned (.int .i64 (findC zs id)) ∧ w' = w := by
  obtain ⟨rfl, hcs⟩ : len = zs.length ∧ (0 < zs.length → ∃ b off, A = some ⟨b, off, none⟩ ∧ ∀ (j : Nat) (x : Cls), zs[j]? = some x → ∀ (i : Nat) (v : Value), x.cells[i]? = some v → w.cell? ⟨b, off + j * 11 + i, none⟩ = some v) := by
    rcases hI with ⟨e, rfl⟩ | ⟨b, off, c, e, hb, hc⟩
    · cases e; exact ⟨rfl, fun h => absurd h (by simp)⟩
    · obtain ⟨rfl, rfl, rfl⟩ := Value.slice.inj e
      exact ⟨rfl, fun _ => ⟨b, off, rfl, hc⟩⟩
  have HCS := Lib.hid hcs
  clear hcs hI
  go_enter Tryz.func72, Tryz.ntmps72
  go_wp2
  go_loopg [5] zs.length (fun kx s5 wr => ∃ k : Nat, s5 = .int .i64 k ∧ k ≤ zs.length ∧ zs.length - k ≤ kx ∧ wr = w ∧ Hid (∀ j y, j < k → zs[j]? = some y → y.id ≠ id))
  case atStart => exact ⟨0, rfl, by omega, by omega, rfl, Lib.hid (fun j y h => absurd h (by omega))⟩
  case round =>
    obtain ⟨k, rfl, hk, hkx, rfl, HN⟩ := hrel
    by_cases hlt : k < zs.length
    · have hltz : (k : Int) < (zs.length : Int) := by omega
      obtain ⟨x, hx⟩ : ∃ x, zs[k]? = some x := ⟨zs[k], List.getElem?_eq_getElem hlt⟩
      obtain ⟨b, off, rfl, hc⟩ := HCS.out (by omega)
      have c0 : wr.cell? ⟨b, off + k * 11, none⟩ = some (.int .i64 x.id) := hc k x hx 0 _ rfl
      have HX := Lib.hid hx
      clear hx hc
      by_cases he : x.id = id
      · go_wp2
        go_ret
        exact ⟨by rw [findC_hit HX.out he HN.out]; rfl, rfl⟩
      · go_wp2
        go_roundg (zs.length - (k + 1))
        case measure => omega
        case rel => exact ⟨k + 1, by go_num, by omega, by omega, rfl, Lib.hid (fun j y hj hy => by
            by_cases e : j = k
            · subst e; rw [HX.out] at hy; cases hy; exact he
            · exact HN.out j y (by omega) hy)⟩
    · have hltz : ¬ (k : Int) < (zs.length : Int) := by omega
      go_wp2
      go_ret
      exact ⟨by rw [findC_miss (fun j y hy => HN.out j y (by have := (List.getElem?_eq_some_iff.1 hy).1; omega) hy)]; rfl, rfl⟩

theorem found_c (x : Cls) (id : Int) (B : Nat) (w : World) (hB : B < w.heap.size) (hc : w.cell? ⟨B, 0, none⟩ = some (.int .i64 id)) :
    Calls Tryz.prog 243 #[x.agg, .pointer (some ⟨B, 0, none⟩)] w fun e w' => e = .returned (.bool (x.id == id)) ∧ Below w.heap.size w w' := by
  have hne : ¬ w.heap.size = B := by omega
  unfold Cls.agg
  go_enter Tryz.func243, Tryz.ntmps243
  go_wp2
  go_ret
  exact ⟨rfl, (Below.refl _ w).alloc (Nat.le_refl _) _⟩
end Go.Proofs.YtpchhfhmopmagaaGreat.So

/- class.Find. -/
namespace Go.Proofs.YtpchhfhmopmagaaGreat.So
open Go.RowKit Go.Shelf Cl Wd

set_option maxRecDepth 20000 in
set_option maxHeartbeats 2000000 in
theorem indexFunc_c (A : Option Addr) (len cap : Nat) (zs : List Cls) (id : Int) (B : Nat) (hlen : zs.length ≤ 1048576) (w : World) (hI : Holds w.heap.size w (.slice A len cap) zs) (hB : B < w.heap.size) (hcB : w.cell? ⟨B, 0, none⟩ = some (.int .i64 id)) :
    Calls Tryz.prog 242 #[.slice A len cap, .func (.func 243) #[] #[.pointer (some ⟨B, 0, none⟩)]] w fun e w' => e = .returned (.int .i64 (findC zs id)) ∧ Below w.heap.size w w' := by
  obtain ⟨rfl, hcs⟩ : len = zs.length ∧ (0 < zs.length → ∃ b off, A = some ⟨b, off, none⟩ ∧ b < w.heap.size ∧ ∀ (j : Nat) (x : Cls), zs[j]? = some x → ∀ (i : Nat) (v : Value), x.cells[i]? = some v → w.cell? ⟨b, off + j * 11 + i, none⟩ = some v) := by
    rcases hI with ⟨e, rfl⟩ | ⟨b, off, c, e, hb, hc⟩
    · cases e; exact ⟨rfl, fun h => absurd h (by simp)⟩
    · obtain ⟨rfl, rfl, rfl⟩ := Value.slice.inj e
      exact ⟨rfl, fun _ => ⟨b, off, rfl, hb, hc⟩⟩
  have HCS := Lib.hid hcs
  have HCB := Lib.hid hcB
  clear hcs hI hcB
  have eg : ∀ args w, (callFunc 243 args).run Tryz.prog w = .ok (.enter 243 args) w := enters_of Tryz.func243 (by kernel_rfl) rfl
  go_enter Tryz.func242, Tryz.ntmps242
  go_wp2
  go_loopg [8] zs.length (fun kx s8 wr => ∃ k : Nat, s8 = .int .i64 k ∧ k ≤ zs.length ∧ zs.length - k ≤ kx ∧ Hid (Below w.heap.size w wr) ∧ Hid (∀ j y, j < k → zs[j]? = some y → y.id ≠ id))
  case atStart => exact ⟨0, rfl, by omega, by omega, Lib.hid (Below.refl _ w), Lib.hid (fun j y h => absurd h (by omega))⟩
  case round =>
    obtain ⟨k, rfl, hk, hkx, HW, HN⟩ := hrel
    by_cases hlt : k < zs.length
    · have hltz : (k : Int) < (zs.length : Int) := by omega
      obtain ⟨x, hx⟩ : ∃ x, zs[k]? = some x := ⟨zs[k], List.getElem?_eq_getElem hlt⟩
      obtain ⟨b, off, rfl, hb, hc⟩ := HCS.out (by omega)
      have hcx : ∀ (i : Nat) (v : Value), x.cells[i]? = some v → wr.cell? ⟨b, off + k * 11 + i, none⟩ = some v := fun i v hv => (HW.out.cell (p := ⟨b, off + k * 11 + i, none⟩) hb).trans (hc k x hx i v hv)
      have c0 : wr.cell? ⟨b, off + k * 11, none⟩ = some (.int .i64 x.id) := hcx 0 _ rfl
      have c1 := hcx 1 _ rfl; have c2 := hcx 2 _ rfl; have c3 := hcx 3 _ rfl; have c4 := hcx 4 _ rfl; have c5 := hcx 5 _ rfl
      have c6 := hcx 6 _ rfl; have c7 := hcx 7 _ rfl; have c8 := hcx 8 _ rfl; have c9 := hcx 9 _ rfl; have c10 := hcx 10 _ rfl
      have HX := Lib.hid hx
      have hf := found_c x id B wr (Nat.lt_of_lt_of_le hB HW.out.size) ((HW.out.cell (p := ⟨B, 0, none⟩) hB).trans HCB.out)
      have HF := Lib.hid hf
      clear hx hc hcx hb hf
      by_cases he : x.id = id
      · have hq : (x.id == id) = true := by simpa using he
        have HE := Lib.hid he
        rw [hq] at HF
        clear he hq
        go_wp2_with (go_at_call 243; refine (HF.out).mono ?_; rintro e w1 ⟨rfl, hb1⟩)
        go_ret
        exact ⟨by rw [findC_hit HX.out HE.out HN.out]; rfl, HW.out.trans (hb1.mono HW.out.size)⟩
      · have hq : (x.id == id) = false := by simpa using he
        have HE := Lib.hid he
        rw [hq] at HF
        clear he hq
        go_wp2_with (go_at_call 243; refine (HF.out).mono ?_; rintro e w1 ⟨rfl, hb1⟩)
        go_roundg (zs.length - (k + 1))
        case measure => omega
        case rel => exact ⟨k + 1, by go_num, by omega, by omega, Lib.hid (HW.out.trans (hb1.mono HW.out.size)), Lib.hid (fun j y hj hy => by
            by_cases e : j = k
            · subst e; rw [HX.out] at hy; cases hy; exact HE.out
            · exact HN.out j y (by omega) hy)⟩
    · have hltz : ¬ (k : Int) < (zs.length : Int) := by omega
      go_wp2
      go_ret
      exact ⟨by rw [findC_miss (fun j y hy => HN.out j y (by have := (List.getElem?_eq_some_iff.1 hy).1; omega) hy)]; rfl, HW.out⟩

/-- class.Find -/
theorem find_c (A : Option Addr) (len cap : Nat) (zs : List Cls) (id : Int) (hlen : zs.length ≤ 1048576) (w : World) (hI : Holds w.heap.size w (.slice A len cap) zs) :
    Calls Tryz.prog 199 #[.slice A len cap, .int .i64 id] w fun e w' => e = .returned (.int .i64 (findC zs id)) ∧ Below w.heap.size w w' := by
  have hB0 : Below w.heap.size w (w.alloc (.cells #[.int .i64 id] 3)) := (Below.refl _ w).alloc (Nat.le_refl _) _
  have h1 := indexFunc_c A len cap zs id w.heap.size hlen (w.alloc (.cells #[.int .i64 id] 3)) (by
    rcases hI.below hB0 with h | ⟨b, off, c, e1, e2, e3⟩
    · exact .inl h
    · exact .inr ⟨b, off, c, e1, by simp; omega, e3⟩) (by simp) (by simp)
  go_enter Tryz.func199, Tryz.ntmps199
  go_wp2_with (go_at_call 242; refine h1.mono ?_; rintro e w2 ⟨rfl, b2⟩)
  go_ret
  exact ⟨rfl, hB0.trans (b2.mono (by simp))⟩
end Go.Proofs.YtpchhfhmopmagaaGreat.So

/- ref.Sorted: insertion behind all that are not greater. -/
namespace Go.Proofs.YtpchhfhmopmagaaGreat.So
open Go.RowKit Go.Shelf Cl Wd

/-- 'append(s, x...)' on a slice of the call's own, by whatever lies in x -/
theorem wpList_cat {P : Program} {ops : Array Oper} {rest : List Oper} {o : Oper} {a : Act} {Q : Exit → Act → World → Prop} (hgd : o.guard = none) (s x : Operand) (t : TypeId)
    (ho : o.op = .call { callee := .builtin .append, args := #[s, x], argTypes := #[t, t] })
    (base : Nat) (e : TypeId) (i : TypeInfo) (z : Value) (size bytes : Nat) (ht : P.underlying t = some (.slice e)) (hi : P.info? e = some i) (hz : i.zero = some z)
    (hsize : i.size = size) (hby : i.bytes = bytes) (hzs : z.cells.size = size) (hsz : 0 < size) (hb8 : bytes ≤ 4096) (w : World)
    (v : Value) (n : Nat) (xs : List Value) (hown : w.ownsRow base e size v n xs) (hs : a.eval s = v) (ad : Addr) (m c : Nat) (news : List Value)
    (hx : a.eval x = .slice (some ad) m c) (hnl : news.length = m * size) (hc : ∀ j u, news[j]? = some u → w.cell? (ad.add j) = some u) (h1 : ∀ u ∈ news, u.oneCell' = true) (hn : n < 4194304) (hm : m < 4194304) (hbase : base ≤ w.heap.size) (N : Nat) (ys : List Value) (hN : n + m = N) (hys : xs ++ news = ys)
    (h : ∀ A cap w1, w1.ownsRow base e size (.slice A N cap) N ys → Below base w w1 → wpList P ops Q rest (a.put o.dst (.slice A N cap)) w1) : wpList P ops Q (o :: rest) a w := by
  subst hN hys
  refine wpList_append_own _ hgd s x t ho base e i z size bytes ht hi hz hsize hby hzs hsz v n xs hs hown ad m c news hx hnl hc h1 (by unfold maxLen; omega) ?_ hbase ?_
  · have : (n + m) * bytes ≤ 8388608 * 4096 := Nat.mul_le_mul (by omega) hb8
    omega
  · intro v' w1 hown' hgrow _
    obtain ⟨A, cap, rfl⟩ := own_slice hsz hown'
    exact h _ _ w1 hown' ((Below.refl base w).grown hgrow hbase (fun k hk => (hown.lt k hk).1))
/-- what is appended: cells that lie somewhere, or nothing (nil) -/
def News (w : World) (size : Nat) (X : Value) (m : Nat) (news : List Value) : Prop :=
  (∃ ad c, X = .slice (some ad) m c ∧ news.length = m * size ∧ ∀ j u, news[j]? = some u → w.cell? (ad.add j) = some u) ∨ (X = .slice none 0 0 ∧ m = 0 ∧ news = [])
theorem News.alloc {w : World} {size : Nat} {X : Value} {m : Nat} {news : List Value} (o : Obj) (h : News w size X m news) : News (w.alloc o) size X m news := by
  rcases h with ⟨ad, c, hX, hl, hc⟩ | h
  · exact .inl ⟨ad, c, hX, hl, fun j u hu => Lib.cell?_alloc_some _ (hc j u hu)⟩
  · exact .inr h
theorem News.below {w w' : World} {size : Nat} {X : Value} {m : Nat} {news : List Value} (h : News w size X m news) (hb : Below w.heap.size w w') : News w' size X m news := by
  rcases h with ⟨ad, c, hX, hl, hc⟩ | h
  · exact .inl ⟨ad, c, hX, hl, fun j u hu => (hb.cell (World.block_lt_of_cell? w _ (hc j u hu))).trans (hc j u hu)⟩
  · exact .inr h
theorem wpList_cats {P : Program} {ops : Array Oper} {rest : List Oper} {o : Oper} {a : Act} {Q : Exit → Act → World → Prop} (hgd : o.guard = none) (s x : Operand) (t : TypeId)
    (ho : o.op = .call { callee := .builtin .append, args := #[s, x], argTypes := #[t, t] })
    (base : Nat) (e : TypeId) (i : TypeInfo) (z : Value) (size bytes : Nat) (ht : P.underlying t = some (.slice e)) (hi : P.info? e = some i) (hz : i.zero = some z)
    (hsize : i.size = size) (hby : i.bytes = bytes) (hzs : z.cells.size = size) (hsz : 0 < size) (hb8 : bytes ≤ 4096) (w : World)
    (v : Value) (n : Nat) (xs : List Value) (hown : w.ownsRow base e size v n xs) (hs : a.eval s = v) (X : Value) (m : Nat) (news : List Value)
    (hx : a.eval x = X) (hN : News w size X m news) (h1 : ∀ u ∈ news, u.oneCell' = true) (hn : n < 4194304) (hm : m < 4194304) (hbase : base ≤ w.heap.size) (N : Nat) (ys : List Value) (hNm : n + m = N) (hys : xs ++ news = ys)
    (h : ∀ A cap w1, w1.ownsRow base e size (.slice A N cap) N ys → Below base w w1 → wpList P ops Q rest (a.put o.dst (.slice A N cap)) w1) : wpList P ops Q (o :: rest) a w := by
  rcases hN with ⟨ad, c, hX, hl, hc⟩ | ⟨hX, hm0, hn0⟩
  · exact wpList_cat hgd s x t ho base e i z size bytes ht hi hz hsize hby hzs hsz hb8 w v n xs hown hs ad m c news (hx.trans hX) hl hc h1 hn hm hbase N ys hNm hys h
  · subst hm0 hn0 hNm hys
    refine wpList_append_own_none hgd s x t ho base e i size ht hi v n xs hs hown (hx.trans hX) ?_
    obtain ⟨A, cap, rfl⟩ := own_slice hsz hown
    exact h A cap w (by simpa using hown) (Below.refl base w)
theorem ins1_cut {o : List Cls} {x : Cls} {k : Nat} (hk : k ≤ o.length) (h1 : ∀ (j : Nat) y, j < k → o[j]? = some y → y.id ≤ x.id) (h2 : ∀ y, o[k]? = some y → x.id < y.id) : ins1 o x = o.take k ++ x :: o.drop k := by
  induction o generalizing k with
  | nil => simp [ins1]
  | cons a o ih =>
    cases k with
    | zero =>
      have := h2 a rfl
      unfold ins1
      rw [List.takeWhile_cons, List.dropWhile_cons, if_neg (by simp; omega), if_neg (by simp; omega)]
      simp
    | succ k =>
      have h0 := h1 0 a (by omega) rfl
      have := ih (k := k) (by simpa using hk) (fun j y hj hy => h1 (j + 1) y (by omega) (by simpa using hy)) (fun y hy => h2 y (by simpa using hy))
      unfold ins1 at this ⊢
      rw [List.takeWhile_cons, List.dropWhile_cons, if_pos (by simpa using h0), if_pos (by simpa using h0), List.take_succ_cons, List.drop_succ_cons, List.cons_append, this, List.cons_append]
theorem sortC_succ {zs : List Cls} {n : Nat} {x : Cls} (hx : zs[n]? = some x) : sortC (zs.take (n + 1)) = ins1 (sortC (zs.take n)) x := by
  unfold sortC
  rw [List.take_add_one, hx, List.foldl_append]; rfl
theorem owns_ids {w : World} {base n c : Nat} {B : Option Addr} {o : List Cls} {e : TypeId} (h : w.ownsRow base e 11 (.slice B n c) n (o.flatMap Cls.cells)) (hol : o.length = n) :
    0 < n → ∃ g, B = some ⟨g, 0, none⟩ ∧ g < w.heap.size ∧ ∀ (j : Nat) (y : Cls), o[j]? = some y → ∀ (i : Nat) (v : Value), y.cells[i]? = some v → w.cell? ⟨g, j * 11 + i, none⟩ = some v := fun hn => by
  obtain ⟨g, cap, hv, hb, hg⟩ := h.form hn
  obtain ⟨rfl, _, rfl⟩ := Value.slice.inj hv
  refine ⟨g, rfl, hg, fun j y hy i v hv => ?_⟩
  have hi : i < 11 := (List.getElem?_eq_some_iff.1 hv).1
  have hj : j < o.length := (List.getElem?_eq_some_iff.1 hy).1
  have hcell := h.cells (g := g) rfl (j * 11 + i) v (by
    have hlt : j * 11 + i < o.length * 11 := by omega
    rw [flat_get o _ hlt]
    have e1 : (j * 11 + i) / 11 = j := by omega
    have e2 : (j * 11 + i) % 11 = i := by omega
    rw [e1, e2]
    have e3 : o.toArray[j]! = y := by
      rw [getElem!_pos o.toArray j (by simpa using hj)]
      simpa using (List.getElem?_eq_some_iff.1 hy).2
    rw [e3, getElem!_pos y.cells i (show i < y.cells.length from hi), (List.getElem?_eq_some_iff.1 hv).2])
  rwa [add_zero_at] at hcell

theorem owns_mono {w : World} {base base' size n : Nat} {e : TypeId} {v : Value} {xs : List Value} (h : w.ownsRow base e size v n xs) (hb : base' ≤ base) : w.ownsRow base' e size v n xs := by
  refine ⟨h.1, ?_⟩
  rcases h.2 with h0 | ⟨g, c, cur, e1, e2, r⟩
  · exact .inl h0
  · exact .inr ⟨g, c, cur, e1, Nat.le_trans hb e2, r⟩
theorem flat_len (l : List Cls) : (l.flatMap Cls.cells).length = l.length * 11 := by
  induction l with
  | nil => rfl
  | cons x l ih => rw [List.flatMap_cons, List.length_append, ih, cells_len, List.length_cons]; omega
theorem flat_one (l : List Cls) : ∀ u ∈ l.flatMap Cls.cells, u.oneCell' = true := fun u hu => by
  obtain ⟨x, _, hx⟩ := List.mem_flatMap.1 hu
  exact cells_one x u hx
/-- the cells of a part of a list lie where the list lies -/
theorem flat_part {w : World} {g s : Nat} {o p : List Cls} (hp : ∀ (j : Nat) y, p[j]? = some y → o[s + j]? = some y) (h : ∀ (j : Nat) (y : Cls), o[j]? = some y → ∀ (i : Nat) (v : Value), y.cells[i]? = some v → w.cell? ⟨g, j * 11 + i, none⟩ = some v) :
    ∀ j u, (p.flatMap Cls.cells)[j]? = some u → w.cell? ((⟨g, s * 11, none⟩ : Addr).add j) = some u := by
  intro j u hu
  have hj : j < p.length * 11 := by rw [← flat_len]; exact (List.getElem?_eq_some_iff.1 hu).1
  rw [flat_get p j hj] at hu
  have hjp : j / 11 < p.length := by omega
  have e3 : p.toArray[j / 11]! = p[j / 11] := by
    rw [getElem!_pos p.toArray (j / 11) (by simpa using hjp)]; simp
  have hyo := hp (j / 11) _ (List.getElem?_eq_getElem hjp)
  rw [e3] at hu
  have hi : j % 11 < 11 := by omega
  have hl : j % 11 < (p[j / 11].cells).length := by rw [cells_len]; exact hi
  rw [getElem!_pos (p[j / 11].cells) (j % 11) hl] at hu
  have hc := h _ _ hyo (j % 11) u (by rw [List.getElem?_eq_getElem hl]; exact hu)
  have e : (s + j / 11) * 11 + j % 11 = s * 11 + j := by omega
  rw [e] at hc
  rw [Addr.add_lit]
  exact hc

set_option maxRecDepth 20000 in
set_option maxHeartbeats 4000000 in
theorem refsorted_c (A : Option Addr) (len cap : Nat) (zs : List Cls) (hlen : zs.length ≤ 1048576) (w : World) (hI : Holds w.heap.size w (.slice A len cap) zs) :
    Calls Tryz.prog 68 #[.slice A len cap] w fun e w' => ∃ v, e = .returned v ∧ w'.ownsRow w.heap.size 84 11 v zs.length ((sortC zs).flatMap Cls.cells) ∧ Below w.heap.size w w' := by
  obtain ⟨rfl, hcs⟩ : len = zs.length ∧ (0 < zs.length → ∃ b off, A = some ⟨b, off, none⟩ ∧ b < w.heap.size ∧ ∀ (j : Nat) (x : Cls), zs[j]? = some x → ∀ (i : Nat) (v : Value), x.cells[i]? = some v → w.cell? ⟨b, off + j * 11 + i, none⟩ = some v) := by
    rcases hI with ⟨e, rfl⟩ | ⟨b, off, c, e, hb, hc⟩
    · cases e; exact ⟨rfl, fun h => absurd h (by simp)⟩
    · obtain ⟨rfl, rfl, rfl⟩ := Value.slice.inj e
      exact ⟨rfl, fun _ => ⟨b, off, rfl, hb, hc⟩⟩
  have HCS := Lib.hid hcs
  clear hcs hI
  go_enter Tryz.func68, Tryz.ntmps68
  go_wp2
  go_loopg [3, 4, 5, 6] zs.length (fun kx s3 s4 s5 s6 wr => ∃ (n : Nat) (B : Option Addr) (c : Nat), s3 = .slice B n c ∧ s4 = .int .i64 n ∧ n ≤ zs.length ∧ zs.length - n ≤ kx ∧ wr.ownsRow w.heap.size 84 11 (.slice B n c) n ((sortC (zs.take n)).flatMap Cls.cells) ∧ Hid (Below w.heap.size w wr))
  case atStart => exact ⟨0, none, 0, rfl, rfl, by omega, by omega, World.ownsRow_nil .., Lib.hid (Below.refl _ w)⟩
  case round =>
    obtain ⟨n, B, c, rfl, rfl, hn, hkx, hown, HW⟩ := hrel
    by_cases hlt : n < zs.length
    · have hltz : (n : Int) < (zs.length : Int) := by omega
      obtain ⟨x, hx⟩ : ∃ x, zs[n]? = some x := ⟨zs[n], List.getElem?_eq_getElem hlt⟩
      obtain ⟨b, off, rfl, hb, hc⟩ := HCS.out (by omega)
      have hcx : ∀ (q : Nat) (i : Nat) (v : Value), x.cells[i]? = some v → (wr.drewN q).cell? ⟨b, off + n * 11 + i, none⟩ = some v := fun q i v hv => (HW.out.cell (p := ⟨b, off + n * 11 + i, none⟩) hb).trans (hc n x hx i v hv)
      obtain ⟨o, ho⟩ : ∃ o, o = sortC (zs.take n) := ⟨_, rfl⟩
      have hol : o.length = n := by rw [ho, sortC_len, List.length_take]; omega
      rw [← ho] at hown
      have HO := Lib.hid ho
      have hoc : 0 < n → ∃ g, B = some ⟨g, 0, none⟩ ∧ g < wr.heap.size ∧ ∀ (q j : Nat) (y : Cls), o[j]? = some y → (wr.drewN q).cell? ⟨g, j * 11, none⟩ = some (.int .i64 y.id) := fun h0 => by
        obtain ⟨g, h1, h2, h3⟩ := owns_ids hown hol h0
        exact ⟨g, h1, h2, fun q j y hy => h3 j y hy 0 _ rfl⟩
      have HOC := Lib.hid hoc
      have HX := Lib.hid hx
      have HCX := Lib.hid hcx
      have HB := Lib.hid hb
      clear ho hoc hx hcx hc hb
      go_upto_block 2 with fail
      go_cut [5] (fun s5 wx => ∃ k q : Nat, s5 = .int .i64 k ∧ k ≤ n ∧ wx = wr.drewN q ∧ Hid (∀ j y, j < k → o[j]? = some y → y.id ≤ x.id) ∧ Hid (∀ y, o[k]? = some y → x.id < y.id))
      case first =>
        go_wp2_with fail
        go_loopg [5] n (fun kx s5 wi => ∃ (k q : Nat), s5 = .int .i64 k ∧ k ≤ n ∧ n - k ≤ kx ∧ wi = wr.drewN q ∧ Hid (∀ j y, j < k → o[j]? = some y → y.id ≤ x.id))
        case atStart => exact ⟨0, 0, rfl, by omega, by omega, rfl, Lib.hid (fun j y h => absurd h (by omega))⟩
        case round =>
          obtain ⟨k, q, rfl, hk, hkx2, rfl, HN⟩ := hrel
          have c0 : wr.cell? ⟨b, off + n * 11, none⟩ = some (.int .i64 x.id) := HCX.out 0 0 _ rfl
          by_cases hkn : k < n
          · have hz1 : (k : Int) < (n : Int) := by omega
            obtain ⟨y, hy⟩ : ∃ y, o[k]? = some y := ⟨o[k], List.getElem?_eq_getElem (by omega)⟩
            obtain ⟨g, rfl, hg, hyc⟩ := HOC.out (by omega)
            have c1 : wr.cell? ⟨g, k * 11, none⟩ = some (.int .i64 y.id) := hyc 0 k y hy
            have HY := Lib.hid hy
            clear hyc hy
            by_cases hle : y.id ≤ x.id
            · have hled : decide (y.id ≤ x.id) = true := decide_eq_true hle
              have HLE := Lib.hid hle
              go_wp2_with fail
              go_quiet (fail)
              go_wp2
              go_roundg (n - (k + 1))
              case measure => omega
              case rel => exact ⟨k + 1, _, by go_num, by omega, by omega, by first | rfl | exact (World.drewN_drewN _ _ _), Lib.hid (fun j z hj hz => by
                by_cases e : j = k
                · subst e; rw [HY.out] at hz; cases hz; exact HLE.out
                · exact HN.out j z (by omega) hz)⟩
            · have hled : decide (y.id ≤ x.id) = false := decide_eq_false hle
              have HLE : Hid (x.id < y.id) := (by omega : x.id < y.id)
              go_wp2_with fail
              go_quiet (fail)
              go_wp2_with fail
              go_meet
              case rel => exact ⟨k, _, rfl, hk, by first | rfl | exact (World.drewN_drewN _ _ _), HN, Lib.hid (fun z hz => by rw [HY.out] at hz; cases hz; exact HLE.out)⟩
          · have hz1 : ¬ (k : Int) < (n : Int) := by omega
            have hz2 : decide ((k : Int) < (n : Int)) = false := decide_eq_false hz1
            go_wp2_with fail
            go_quiet (fail)
            go_wp2_with fail
            go_meet
            case rel => exact ⟨k, _, rfl, hk, by first | rfl | exact (World.drewN_drewN _ _ _), HN, Lib.hid (fun z hz => by have := (List.getElem?_eq_some_iff.1 hz).1; omega)⟩
      case rest =>
        obtain ⟨k, q, rfl, hk, rfl, HN, HG⟩ := hcut
        have hown2 : (wr.drewN q).ownsRow w.heap.size 84 11 (.slice B n c) n (o.flatMap Cls.cells) := hown
        have hW2 : Below w.heap.size w (wr.drewN q) := below_drewN HW.out q
        have hcx2 := HCX.out q
        have hol2 : o.length = n := hol
        have hnc : n ≤ c := by
          rcases hown.2 with ⟨e, h0⟩ | ⟨_, _, _, e, _, _, h, _⟩
          · omega
          · have := (Value.slice.inj e).2.2; omega
        clear hown HCX HOC HCS HW
        generalize wr.drewN q = W at *
        have HOWN := Lib.hid hown2
        have HW2 := Lib.hid hW2
        have HCX := Lib.hid hcx2
        clear hown2 hW2 hcx2
        have hkz : (k : Int) ≤ (c : Int) := by omega
        have hkz2 : ¬ (c : Int) < (k : Int) := by omega
        have hnz : (k : Int) ≤ (n : Int) := by omega
        have hsz : w.heap.size ≤ W.heap.size := HW2.out.size
        have hB : (B = none ∧ c = 0 ∧ News W 11 (.slice none k 0) k ((o.take k).flatMap Cls.cells) ∧ News W 11 (.slice none (n - k) 0) (n - k) ((o.drop k).flatMap Cls.cells)) ∨
            ∃ g, B = some ⟨g, 0, none⟩ ∧ News W 11 (.slice (some ⟨g, 0, none⟩) k c) k ((o.take k).flatMap Cls.cells) ∧ News W 11 (.slice (some (if c = k then ⟨g, 0, none⟩ else ⟨g, k * 11, none⟩)) (n - k) (c - k)) (n - k) ((o.drop k).flatMap Cls.cells) := by
          rcases HOWN.out.2 with ⟨e, h0⟩ | ⟨g, _, _, e, _, _, h, _⟩
          · obtain ⟨rfl, rfl, rfl⟩ := Value.slice.inj e
            have ho0 : o = [] := List.eq_nil_of_length_eq_zero hol2
            subst ho0
            obtain rfl : k = 0 := by omega
            exact .inl ⟨rfl, rfl, .inr ⟨rfl, rfl, rfl⟩, .inr ⟨rfl, rfl, rfl⟩⟩
          · obtain ⟨rfl, _, _⟩ := Value.slice.inj e
            refine .inr ⟨g, rfl, .inl ⟨_, _, rfl, ?_, ?_⟩, .inl ⟨_, _, rfl, ?_, ?_⟩⟩
            · rw [flat_len, List.length_take]; congr 1; omega
            · intro j u hu
              have hn0 : 0 < n := by
                have := (List.getElem?_eq_some_iff.1 hu).1
                rw [flat_len, List.length_take] at this; omega
              obtain ⟨g', e', _, hcs⟩ := owns_ids HOWN.out hol2 hn0
              cases e'
              have := flat_part (s := 0) (p := o.take k) (fun j y hy => by rw [Nat.zero_add]; rw [List.getElem?_take] at hy; split at hy; exact hy; cases hy) hcs j u hu
              simpa using this
            · rw [flat_len, List.length_drop]; congr 1; omega
            · intro j u hu
              have hkn : k < n := by
                have := (List.getElem?_eq_some_iff.1 hu).1
                rw [flat_len, List.length_drop] at this; omega
              obtain ⟨g', e', _, hcs⟩ := owns_ids HOWN.out hol2 (by omega)
              cases e'
              rw [if_neg (by omega)]
              exact flat_part (s := k) (p := o.drop k) (fun j y hy => by rw [List.getElem?_drop] at hy; exact hy) hcs j u hu
        have hfl1 := flat_one (o.take k)
        have hfl2 := flat_one (o.drop k)
        obtain ⟨i0, hi, hz0, hz1, hz2⟩ := info_parts class_info
        have hn63 : n < 4194304 := by omega
        have hk63 : k < 4194304 := by omega
        have hins : (o.take k).flatMap Cls.cells ++ x.cells ++ (o.drop k).flatMap Cls.cells = (sortC (zs.take (n + 1))).flatMap Cls.cells := by
          have e1 := sortC_succ HX.out
          rw [← HO.out] at e1
          rw [e1, ins1_cut (k := k) (by omega) (HN.out) (HG.out)]
          simp
        have hins := Lib.hid hins
        clear HOWN
        rcases hB with ⟨rfl, rfl, hN1, hN2⟩ | ⟨g, rfl, hN1, hN2⟩
        · have hN1 := Lib.hid hN1
          have hN2 := Lib.hid hN2
          generalize (o.take k).flatMap Cls.cells = L1 at *
          generalize (o.drop k).flatMap Cls.cells = L2 at *
          go_upto_region 9 with ((at_builtin; go_must (refine wpList_cats (by rfl) _ _ 22 (by rfl) W.heap.size 84 i0 _ 11 80 Tryz.underlying22 hi hz0 hz1 hz2 rfl (by decide) (by decide) _ _ _ [] (World.ownsRow_made W #[] 0 (Nat.le_refl _) (Nat.zero_le _) rfl) (by rfl) _ k L1 (by rfl) (hN1.out.alloc _) hfl1 (by decide) hk63 (by simp) k L1 (Nat.zero_add k) rfl ?_); intro A1 c1 w1 hown1 hb1))
          have hB1 : Below W.heap.size W w1 := ((Below.refl _ W).alloc (Nat.le_refl _) _).trans hb1
          have hbW : b < W.heap.size := Nat.lt_of_lt_of_le HB.out hsz
          have cx : ∀ (i : Nat) (v : Value), x.cells[i]? = some v → w1.cell? ⟨b, off + n * 11 + i, none⟩ = some v := fun i v hv => (hB1.cell (p := ⟨b, off + n * 11 + i, none⟩) hbW).trans (HCX.out i v hv)
          have c0 : w1.cell? ⟨b, off + n * 11, none⟩ = some (.int .i64 x.id) := cx 0 _ rfl
          have c1' : w1.cell? ⟨b, off + n * 11 + 1, none⟩ = some (.int .i64 x.parent) := cx 1 _ rfl
          have c2' : w1.cell? ⟨b, off + n * 11 + 2, none⟩ = some (.float .f64 x.share) := cx 2 _ rfl
          have c3' : w1.cell? ⟨b, off + n * 11 + 3, none⟩ = some (.int .i64 x.prio) := cx 3 _ rfl
          have c4' : w1.cell? ⟨b, off + n * 11 + 4, none⟩ = some (.int .i64 x.quantum) := cx 4 _ rfl
          have c5' : w1.cell? ⟨b, off + n * 11 + 5, none⟩ = some (.int .i64 x.limit) := cx 5 _ rfl
          have c6' : w1.cell? ⟨b, off + n * 11 + 6, none⟩ = some (.int .i64 x.weight) := cx 6 _ rfl
          have c7' : w1.cell? ⟨b, off + n * 11 + 7, none⟩ = some (.int .i64 x.minIdle) := cx 7 _ rfl
          have c8' : w1.cell? ⟨b, off + n * 11 + 8, none⟩ = some (.int .i64 x.maxIdle) := cx 8 _ rfl
          have c9' : w1.cell? ⟨b, off + n * 11 + 9, none⟩ = some (.bool x.bounded) := cx 9 _ rfl
          have c10' : w1.cell? ⟨b, off + n * 11 + 10, none⟩ = some (.bool x.isolated) := cx 10 _ rfl
          have HB1 := Lib.hid hB1
          have HO1 := Lib.hid hown1
          have hs1 : W.heap.size ≤ w1.heap.size := hB1.size
          clear cx hB1 hb1 hown1
          go_upto_region 10 with ((at_builtin; go_must (refine wpList_push (by rfl) _ _ 22 (by rfl) W.heap.size 84 i0 _ 11 80 Tryz.underlying22 hi hz0 hz1 hz2 rfl (by decide) (by decide) w1 _ rfl (by simp [Value.oneCell']) _ _ _ HO1.out (by rfl) (by rfl) (by omega) hs1 ?_); intro A2 c2 w2 hown2 hb2))
          clear c0 c1' c2' c3' c4' c5' c6' c7' c8' c9' c10'
          have hB2 : Below W.heap.size W w2 := HB1.out.trans hb2
          have hs2 : W.heap.size ≤ w2.heap.size := hB2.size
          have HN2 := Lib.hid (hN2.out.below hB2)
          have HO2 := Lib.hid hown2
          have HB2 := Lib.hid hB2
          clear hown2 hb2 hB2 hN2
          go_wp2_with ((at_builtin; go_must (refine wpList_cats (by rfl) _ _ 22 (by rfl) W.heap.size 84 i0 _ 11 80 Tryz.underlying22 hi hz0 hz1 hz2 rfl (by decide) (by decide) w2 _ (k + 1) _ HO2.out (by rfl) _ (n - k) L2 (by rfl) HN2.out hfl2 (by omega) (by omega) hs2 (n + 1) _ (by omega) hins.out ?_); intro A3 c3 w3 hown3 hb3))
          go_roundg (zs.length - (n + 1))
          case measure => omega
          case rel => exact ⟨n + 1, A3, c3, rfl, by go_num, by omega, by omega, owns_mono hown3 hsz, Lib.hid (HW2.out.trans ((HB2.out.trans hb3).mono hsz))⟩
        · have hN1 := Lib.hid hN1
          have hN2 := Lib.hid hN2
          generalize (o.take k).flatMap Cls.cells = L1 at *
          generalize (o.drop k).flatMap Cls.cells = L2 at *
          go_upto_region 9 with ((at_builtin; go_must (refine wpList_cats (by rfl) _ _ 22 (by rfl) W.heap.size 84 i0 _ 11 80 Tryz.underlying22 hi hz0 hz1 hz2 rfl (by decide) (by decide) _ _ _ [] (World.ownsRow_made W #[] 0 (Nat.le_refl _) (Nat.zero_le _) rfl) (by rfl) _ k L1 (by rfl) (hN1.out.alloc _) hfl1 (by decide) hk63 (by simp) k L1 (Nat.zero_add k) rfl ?_); intro A1 c1 w1 hown1 hb1))
          have hB1 : Below W.heap.size W w1 := ((Below.refl _ W).alloc (Nat.le_refl _) _).trans hb1
          have hbW : b < W.heap.size := Nat.lt_of_lt_of_le HB.out hsz
          have cx : ∀ (i : Nat) (v : Value), x.cells[i]? = some v → w1.cell? ⟨b, off + n * 11 + i, none⟩ = some v := fun i v hv => (hB1.cell (p := ⟨b, off + n * 11 + i, none⟩) hbW).trans (HCX.out i v hv)
          have c0 : w1.cell? ⟨b, off + n * 11, none⟩ = some (.int .i64 x.id) := cx 0 _ rfl
          have c1' : w1.cell? ⟨b, off + n * 11 + 1, none⟩ = some (.int .i64 x.parent) := cx 1 _ rfl
          have c2' : w1.cell? ⟨b, off + n * 11 + 2, none⟩ = some (.float .f64 x.share) := cx 2 _ rfl
          have c3' : w1.cell? ⟨b, off + n * 11 + 3, none⟩ = some (.int .i64 x.prio) := cx 3 _ rfl
          have c4' : w1.cell? ⟨b, off + n * 11 + 4, none⟩ = some (.int .i64 x.quantum) := cx 4 _ rfl
          have c5' : w1.cell? ⟨b, off + n * 11 + 5, none⟩ = some (.int .i64 x.limit) := cx 5 _ rfl
          have c6' : w1.cell? ⟨b, off + n * 11 + 6, none⟩ = some (.int .i64 x.weight) := cx 6 _ rfl
          have c7' : w1.cell? ⟨b, off + n * 11 + 7, none⟩ = some (.int .i64 x.minIdle) := cx 7 _ rfl
          have c8' : w1.cell? ⟨b, off + n * 11 + 8, none⟩ = some (.int .i64 x.maxIdle) := cx 8 _ rfl
          have c9' : w1.cell? ⟨b, off + n * 11 + 9, none⟩ = some (.bool x.bounded) := cx 9 _ rfl
          have c10' : w1.cell? ⟨b, off + n * 11 + 10, none⟩ = some (.bool x.isolated) := cx 10 _ rfl
          have HB1 := Lib.hid hB1
          have HO1 := Lib.hid hown1
          have hs1 : W.heap.size ≤ w1.heap.size := hB1.size
          clear cx hB1 hb1 hown1
          go_upto_region 10 with ((at_builtin; go_must (refine wpList_push (by rfl) _ _ 22 (by rfl) W.heap.size 84 i0 _ 11 80 Tryz.underlying22 hi hz0 hz1 hz2 rfl (by decide) (by decide) w1 _ rfl (by simp [Value.oneCell']) _ _ _ HO1.out (by rfl) (by rfl) (by omega) hs1 ?_); intro A2 c2 w2 hown2 hb2))
          clear c0 c1' c2' c3' c4' c5' c6' c7' c8' c9' c10'
          have hB2 : Below W.heap.size W w2 := HB1.out.trans hb2
          have hs2 : W.heap.size ≤ w2.heap.size := hB2.size
          have HN2 := Lib.hid (hN2.out.below hB2)
          have HO2 := Lib.hid hown2
          have HB2 := Lib.hid hB2
          clear hown2 hb2 hB2 hN2
          by_cases hck : c = k
          · rw [if_pos hck, show c - k = 0 by omega] at HN2
            have hck2 : ¬ c < k := by omega
            go_wp2_with ((at_builtin; go_must (refine wpList_cats (by rfl) _ _ 22 (by rfl) W.heap.size 84 i0 _ 11 80 Tryz.underlying22 hi hz0 hz1 hz2 rfl (by decide) (by decide) w2 _ (k + 1) _ HO2.out (by rfl) _ (n - k) L2 (by rfl) HN2.out hfl2 (by omega) (by omega) hs2 (n + 1) _ (by omega) hins.out ?_); intro A3 c3 w3 hown3 hb3))
            go_roundg (zs.length - (n + 1))
            case measure => omega
            case rel => exact ⟨n + 1, A3, c3, rfl, by go_num, by omega, by omega, owns_mono hown3 hsz, Lib.hid (HW2.out.trans ((HB2.out.trans hb3).mono hsz))⟩
          · rw [if_neg hck] at HN2
            go_wp2_with ((at_builtin; go_must (refine wpList_cats (by rfl) _ _ 22 (by rfl) W.heap.size 84 i0 _ 11 80 Tryz.underlying22 hi hz0 hz1 hz2 rfl (by decide) (by decide) w2 _ (k + 1) _ HO2.out (by rfl) _ (n - k) L2 (by rfl) HN2.out hfl2 (by omega) (by omega) hs2 (n + 1) _ (by omega) hins.out ?_); intro A3 c3 w3 hown3 hb3))
            go_roundg (zs.length - (n + 1))
            case measure => omega
            case rel => exact ⟨n + 1, A3, c3, rfl, by go_num, by omega, by omega, owns_mono hown3 hsz, Lib.hid (HW2.out.trans ((HB2.out.trans hb3).mono hsz))⟩
    · have hltz : ¬ (n : Int) < (zs.length : Int) := by omega
      obtain rfl : n = zs.length := by omega
      go_wp2
      go_ret
      exact ⟨_, rfl, by simpa using hown, HW.out⟩
end Go.Proofs.YtpchhfhmopmagaaGreat.So

/- ref.SameAll of a list with itself; the law ClassSorts. -/
namespace Go.Proofs.YtpchhfhmopmagaaGreat.So
open Go.RowKit Go.Shelf Cl Wd Rel
attribute [local go_sem] opR oneOk relOk
attribute [local irreducible] wpRel

theorem Holds.up {n₀ n₁ : Nat} {A : World} (hn : n₀ ≤ n₁) {sv : Value} {zs : List Cls} : Holds n₀ A sv zs → Holds n₁ A sv zs
  | .inl e => .inl e
  | .inr ⟨b, off, cap, e, hb, hc⟩ => .inr ⟨b, off, cap, e, Nat.lt_of_lt_of_le hb hn, hc⟩
/-- what was held lies there behind a call -/
theorem Holds.next {A B : World} (h : Below A.heap.size A B) {sv : Value} {zs : List Cls} (k : Holds A.heap.size A sv zs) : Holds B.heap.size B sv zs := (k.below h).up h.size
theorem Holds.form {n₀ : Nat} {A : World} {sv : Value} {zs : List Cls} : Holds n₀ A sv zs → ∃ a c, sv = .slice a zs.length c
  | .inl ⟨e, h⟩ => ⟨none, 0, by rw [e, h]; rfl⟩
  | .inr ⟨_, _, _, e, _, _⟩ => ⟨_, _, e⟩
end Go.Proofs.YtpchhfhmopmagaaGreat.So
