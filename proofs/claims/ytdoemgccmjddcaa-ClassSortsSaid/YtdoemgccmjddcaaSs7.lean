/- slices.SortStableFunc at classes: the comparing closure of class.Sorted, the insertion sort off the shelf, the whole. -/
import Derived.Test.YtdoemgccmjddcaaSs6
import Derived.Test.YtdoemgccmjddcaaCl7
import Derived.Shelf.SlSortCmp.InsertionK
import Derived.Shelf.SlGeneric
import Derived.Ground.SlsfProg
import Derived.Handy
namespace Go.Proofs.Ytdoemgccmjddcaa.So
open Go.Shelf Go.RowKit Go.Lib Go.Sort Cl
def Try.insK_ren : Go.Shelf.Ren := ⟨fun | 20 => 170 | n => n, fun | 24 => 64 | 22 => 22 | 3 => 3 | 25 => 147 | 4 => 4 | 0 => 0 | n => n, fun | n => n⟩
theorem Try.insK : Go.Proofs.SlLaysF0.n20 Try.prog Try.insK_ren := {
  mixed := by kernel_rfl
  f20 := ⟨Try.f170.name, by decide, Try.func170.trans (congrArg some (by kernel_rfl))⟩
  t0 := Try.underlying0
  a0 := Try.isAgg0
  z0 := Try.sizeOf0
  v0 := Try.zeroValue0
  t3 := Try.underlying3
  a3 := Try.isAgg3
  z3 := Try.sizeOf3
  v3 := Try.zeroValue3
  t4 := Try.underlying4
  a4 := Try.isAgg4
  z4 := Try.sizeOf4
  v4 := Try.zeroValue4
  t22 := Try.underlying22
  a22 := Try.isAgg22
  z22 := Try.sizeOf22
  v22 := Try.zeroValue22
  t25 := Try.underlying147
  a25 := Try.isAgg147
  z25 := Try.sizeOf147
  v25 := Try.zeroValue147 }

instance : Inhabited Cls := ⟨⟨0, 0, 0, 0, 0, 0, 0, 0, 0, false, false⟩⟩
def cmpI (x y : Cls) : Int := if x.id < y.id then -1 else if x.id > y.id then 1 else 0
theorem cmpI_lt (x y : Cls) : cmpI x y < 0 ↔ x.id < y.id := by
  unfold cmpI
  split
  · simp; assumption
  · split <;> constructor <;> intro h <;> omega

theorem isNaN_i (x : Int) (w : World) : Calls Try.prog 153 #[.int .i64 x] w fun e w' => e = .returned (.bool false) ∧ w' = w := by
  go_enter Try.func153, Try.ntmps153
  go_wp2
  go_ret
  exact ⟨rfl, rfl⟩
theorem compare_i (x y : Int) (w : World) : Calls Try.prog 123 #[.int .i64 x, .int .i64 y] w fun e w' => e = .returned (.int .i64 (if x < y then -1 else if x > y then 1 else 0)) ∧ w' = w := by
  go_enter Try.func123, Try.ntmps123
  by_cases h1 : x < y
  · go_wp2_with (go_at_call 153; refine (isNaN_i _ _).mono ?_; rintro e w' ⟨rfl, rfl⟩)
    go_ret
    exact ⟨rfl, rfl⟩
  · by_cases h2 : y < x
    · go_wp2_with (go_at_call 153; refine (isNaN_i _ _).mono ?_; rintro e w' ⟨rfl, rfl⟩)
      go_ret
      exact ⟨rfl, rfl⟩
    · go_wp2_with (go_at_call 153; refine (isNaN_i _ _).mono ?_; rintro e w' ⟨rfl, rfl⟩)
      go_ret
      exact ⟨rfl, rfl⟩
theorem closure (x y : Cls) (w : World) : Calls Try.prog 122 #[x.agg, y.agg] w fun e w' => e = .returned (.int .i64 (cmpI x y)) ∧ ∃ q os', w' = grow (w.drewN q) os' := by
  have hcon := fun W' => compare_i x.id y.id W'
  unfold cmpI
  generalize (if x.id < y.id then (-1 : Int) else if x.id > y.id then 1 else 0) = r at hcon ⊢
  unfold Cls.agg
  go_enter Try.func122, Try.ntmps122
  go_wp2_with (go_at_call 123; refine (hcon _).mono ?_; rintro e w' ⟨rfl, rfl⟩)
  go_ret
  exact ⟨rfl, 0, _, by rw [alloc_eq_grow, alloc_eq_grow, grow_grow]; rfl⟩

abbrev wk (w : World) (blk off m : Nat) (d : Array Cls) (os : Array Obj) : World := sortWorldK Cls.cells 11 w blk off m d os
theorem cells_len (x : Cls) : (Cls.cells x).length = 11 := rfl
theorem cells_one (x : Cls) : ∀ v ∈ Cls.cells x, v.oneCell' = true := by
  intro v hv; simp [Cls.cells] at hv; rcases hv with rfl | rfl | rfl | rfl | rfl | rfl | rfl | rfl | rfl | rfl | rfl <;> rfl
theorem lays (blk off size : Nat) (w : World) : CmpLays Try.prog 122 #[] Cls.cells 11 cmpI blk off size w :=
  fun _ _ _ _ x y => closure x y _
theorem eg_i : ∀ args w, (callFunc 122 args).run Try.prog w = .ok (.enter 122 args) w := enters_of Try.func122 (by kernel_rfl) rfl
theorem rowK {w0 : World} {blk off : Nat} {d0 : Array Cls} (h : HoldsK Cls.cells 11 w0 blk off d0) (hb : blk < w0.heap.size) : RowK Cls.cells 11 w0 blk off d0 := ⟨cells_len, cells_one, h, hb⟩
theorem ins_i (blk off cap sz : Nat) (w0 : World) (d0 : Array Cls) (R : RowK Cls.cells 11 w0 blk off d0) (hs : d0.size = sz) (hsz : sz < 1152921504606846976) :
    Ins Try.prog Cls.cells Cls.id 11 122 #[] blk off cap sz w0 := fun a b d w hab hb hd S => by
  have hcon := AnyQ.insertionSortCmpFunc Try.insK 11 Try.isAgg64 Try.sizeOf64 Cls.cells cells_len cells_one cmpI 122 #[] blk off cap a b d w eg_i (lays _ _ _ _) (S.holds R.hblk R.hH (by omega)) (S.lt R.hblk) hab (by omega) (by omega)
  change Calls Try.prog 170 _ _ _ at hcon
  rw [hd] at hcon
  refine hcon.mono fun e w' ⟨he, n, os, hw⟩ => ⟨he, _, ins_mer cmpI_lt d hab (by omega), ?_⟩
  rw [hw]
  exact S.on R.hblk _ _ _ (ins_mer cmpI_lt d hab (by omega)).size

/-- slices.SortStableFunc over class.Sorted's closure, at a slice that lies in a block -/
theorem sortStable {w : World} {blk off cap : Nat} {d : Array Cls} (h : HoldsK Cls.cells 11 w blk off d) (hb : blk < w.heap.size) (hsz : d.size < 1152921504606846976) :
    Calls Try.prog 151 #[.slice (some ⟨blk, off, none⟩) d.size cap, .func (.func 122) #[] #[]] w fun e w' =>
      e = .returned (.tuple #[]) ∧ ∃ d', d'.size = d.size ∧ Srt Cls.id d'.toList ∧ Ren Cls.id d.toList d'.toList ∧ SWK Cls.cells 11 w blk off d' w' := by
  have R := rowK h hb
  have hcon := stable_any sl Cls.cells cmpI cmpI_lt 122 #[] blk off cap d.size d d w w eg_i (lays _ _ _ _) R rfl rfl (SWK.start h) hsz (ins_i blk off cap d.size w d R rfl hsz) (Bears.enters Try.insK.f20 rfl)
  go_enter Try.func151, Try.ntmps151
  go_wp2_with (go_at_call 164; refine hcon.mono ?_; rintro e w' ⟨rfl, d', h1, h2, h3, h4⟩)
  go_end0
  refine ⟨rfl, d', h1, ?_, ?_, h4⟩
  · rw [← sg_all d', h1]; exact h2
  · rw [← sg_all d', ← sg_all d, h1]; exact h3
end Go.Proofs.Ytdoemgccmjddcaa.So
