/- slices.SortedStableFunc over filters, by any comparator that tells a key's order (printed by wip/gen/fi2.py out of the sort of classes). -/
import Derived.Test.YtpchhfhmopmagaaGreatFi1a
set_option linter.unusedVariables false
set_option linter.unusedSimpArgs false
namespace Go.Proofs.YtpchhfhmopmagaaGreat.Fi
open Go.RowKit Go.Shelf Go.Sort Wd Go.Proofs.YtpchhfhmopmagaaGreat.So
attribute [local go_sem] Oper.semAt_some

def Tryz.fInsK_ren : Go.Shelf.Ren := ⟨fun | 20 => 263 | n => n, fun | 24 => 98 | 22 => 23 | 3 => 3 | 25 => 180 | 4 => 4 | 0 => 0 | n => n, fun | n => n⟩
theorem Tryz.fInsK : Go.Proofs.SlLaysF0.n20 Tryz.prog Tryz.fInsK_ren := {
  mixed := by kernel_rfl
  f20 := ⟨Tryz.f263.name, by decide, Tryz.func263.trans (congrArg some (by kernel_rfl))⟩
  t0 := Tryz.underlying0
  a0 := Tryz.isAgg0
  z0 := Tryz.sizeOf0
  v0 := Tryz.zeroValue0
  t3 := Tryz.underlying3
  a3 := Tryz.isAgg3
  z3 := Tryz.sizeOf3
  v3 := Tryz.zeroValue3
  t4 := Tryz.underlying4
  a4 := Tryz.isAgg4
  z4 := Tryz.sizeOf4
  v4 := Tryz.zeroValue4
  t22 := Tryz.underlying23
  a22 := Tryz.isAgg23
  z22 := Tryz.sizeOf23
  v22 := Tryz.zeroValue23
  t25 := Tryz.underlying180
  a25 := Tryz.isAgg180
  z25 := Tryz.sizeOf180
  v25 := Tryz.zeroValue180 }

/-- a function value without a box that compares filters, as a key's order -/
structure Cmp (g : Nat) (cf : F → F → Int) (key : F → Int) : Prop where
  lt : ∀ x y, cf x y < 0 ↔ key x < key y
  call : ∀ (x y : F) (w : World), Calls Tryz.prog g #[x.agg, y.agg] w fun e w' => e = .returned (.int .i64 (cf x y)) ∧ ∃ q os', w' = grow (w.drewN q) os'
  eg : ∀ args w, (callFunc g args).run Tryz.prog w = .ok (.enter g args) w
section
variable {g : Nat} {cf : F → F → Int} {key : F → Int}
abbrev wk (w : World) (blk off m : Nat) (d : Array F) (os : Array Obj) : World := sortWorldK F.cells 15 w blk off m d os
theorem Cmp.lays (C : Cmp g cf key) (blk off size : Nat) (w : World) : CmpLays Tryz.prog g #[] F.cells 15 cf blk off size w :=
  fun _ _ _ _ x y => C.call x y _
theorem rowK {w0 : World} {blk off : Nat} {d0 : Array F} (h : HoldsK F.cells 15 w0 blk off d0) (hb : blk < w0.heap.size) : RowK F.cells 15 w0 blk off d0 := ⟨cells_len, cells_one, h, hb⟩
theorem ins_i (C : Cmp g cf key) (blk off cap sz : Nat) (w0 : World) (d0 : Array F) (R : RowK F.cells 15 w0 blk off d0) (hs : d0.size = sz) (hsz : sz < 1152921504606846976) :
    Ins Tryz.prog F.cells key 15 g #[] blk off cap sz w0 := fun a b d w hab hb hd S => by
  have hcon := AnyQ.insertionSortCmpFunc Tryz.fInsK 15 Tryz.isAgg98 Tryz.sizeOf98 F.cells cells_len cells_one cf g #[] blk off cap a b d w C.eg (C.lays _ _ _ _) (S.holds R.hblk R.hH (by omega)) (S.lt R.hblk) hab (by omega) (by omega)
  change Calls Tryz.prog 263 _ _ _ at hcon
  rw [hd] at hcon
  refine hcon.mono fun e w' ⟨he, n, os, hw⟩ => ⟨he, _, ins_mer C.lt d hab (by omega), ?_⟩
  rw [hw]
  exact S.on R.hblk _ _ _ (ins_mer C.lt d hab (by omega)).size
theorem sortStable (C : Cmp g cf key) {w : World} {blk off cap : Nat} {d : Array F} (h : HoldsK F.cells 15 w blk off d) (hb : blk < w.heap.size) (hsz : d.size < 1152921504606846976) :
    Calls Tryz.prog 191 #[.slice (some ⟨blk, off, none⟩) d.size cap, .func (.func g) #[] #[]] w fun e w' =>
      e = .returned (.tuple #[]) ∧ ∃ d', d'.size = d.size ∧ Srt key d'.toList ∧ Ren key d.toList d'.toList ∧ SWK F.cells 15 w blk off d' w' := by
  have R := rowK h hb
  have hcon := stable_any sl F.cells cf C.lt g #[] blk off cap d.size d d w w C.eg (C.lays _ _ _ _) R rfl rfl (SWK.start h) hsz (ins_i C blk off cap d.size w d R rfl hsz) (Bears.enters Tryz.fInsK.f20 rfl)
  go_enter Tryz.func191, Tryz.ntmps191
  go_wp2_with (go_at_call 237; refine hcon.mono ?_; rintro e w' ⟨rfl, d', h1, h2, h3, h4⟩)
  go_end0
  refine ⟨rfl, d', h1, ?_, ?_, h4⟩
  · rw [← sg_all d', h1]; exact h2
  · rw [← sg_all d', ← sg_all d, h1]; exact h3
end
/-- the slice value sv holds the filters zs -/
abbrev HoldsF (n₀ : Nat) (W : World) (sv : Value) (zs : List F) : Prop := Li.Lies 15 F.cells n₀ W sv zs

set_option maxRecDepth 100000 in
set_option maxHeartbeats 4000000 in
theorem values1_in (Fe : Fence) (n : Nat) (h7 : Fe.fn 192) (hro : Fe.round = none) (hn : 1 ≤ n) (l Bs n₀ b off cap : Nat) (zs : List F) (hreach : zs.length ≤ 1048576) (hb : b < n₀) (J Jx : List F → World → Prop)
    (hY : ∀ pre x W, J pre W → pre.length < zs.length → YieldAt Fe (n - 1) Tryz.prog l #[x.agg] W fun e W' =>
      (e = .returned (.bool true) ∧ J (pre ++ [x]) W' ∧ Below n₀ W W') ∨ (e = .returned (.bool false) ∧ Jx (pre ++ [x]) W'))
    (W : World) (hn₀ : n₀ ≤ W.heap.size) (hJ : AbidesFrom W.heap.size J) (hBs : W.cell? ⟨Bs, 0, none⟩ = some (.slice (some ⟨b, off, none⟩) zs.length cap))
    (hc : ∀ (j : Nat) (x : F), zs[j]? = some x → ∀ (i : Nat) (v : Value), x.cells[i]? = some v → W.cell? ⟨b, off + j * 15 + i, none⟩ = some v) (h0 : J [] W) :
    CallsIn Fe n Tryz.prog 192 #[.func (.yield l) #[] #[], .pointer (some ⟨Bs, 0, none⟩)] W fun e W' => (∃ v, e = .returned v) ∧
      (J zs W' ∨ (∃ pre, pre <+: zs ∧ Jx pre W')) := by
  refine callsIn_of_wp Tryz.func192 rfl h7 ?_ hro
  simp only [Tryz.ntmps192, List.size_toArray, List.length_cons, List.length_nil, Nat.reduceAdd, Nat.reduceSub, Array.replicate_succ, Array.replicate_zero, List.push_toArray, List.append_toArray, List.nil_append, List.cons_append]
  gi_wp2
  gi_loopw [7] (fun i wr => ∃ k : Nat, k ≤ zs.length ∧ i = .int .i64 k ∧ J (zs.take k) wr ∧ Below n₀ W wr)
    (fun i _ => zs.length - (intOf i).toNat)
  case atStart => exact ⟨0, Nat.zero_le _, rfl, by simpa using h0, Below.refl _ _⟩
  case round =>
    obtain ⟨k, hk, rfl, hJs, hnx⟩ := hrel
    by_cases hlt : k < zs.length
    · obtain ⟨x, hx⟩ : ∃ x, zs[k]? = some x := ⟨zs[k], List.getElem?_eq_getElem hlt⟩
      have hcx : ∀ (i : Nat) (v : Value), x.cells[i]? = some v → wr.cell? ⟨b, off + k * 15 + i, none⟩ = some v := fun i v hv => (hnx.cell (p := ⟨b, off + k * 15 + i, none⟩) hb).trans (hc k x hx i v hv)
      have c0 : wr.cell? ⟨b, off + k * 15, none⟩ = some (.int .i64 x.id) := hcx 0 _ rfl
      have c1 := hcx 1 _ rfl
      have c2 := hcx 2 _ rfl
      have c3 := hcx 3 _ rfl
      have c4 := hcx 4 _ rfl
      have c5 := hcx 5 _ rfl
      have c6 := hcx 6 _ rfl
      have c7 := hcx 7 _ rfl
      have c8 := hcx 8 _ rfl
      have c9 := hcx 9 _ rfl
      have c10 := hcx 10 _ rfl
      have c11 := hcx 11 _ rfl
      have c12 := hcx 12 _ rfl
      have c13 := hcx 13 _ rfl
      have c14 := hcx 14 _ rfl
      have hJ2 : J (zs.take k) (wr.alloc (.cells #[.int .i64 x.id, .int .i64 x.prio, .int .i64 x.ver, .int .u64 x.sh, .int .u64 x.sl, .int .u64 x.dh, .int .u64 x.dl, .int .i64 x.sn, .int .i64 x.dn, .int .i64 x.proto, .int .i64 x.s0, .int .i64 x.s1, .int .i64 x.d0, .int .i64 x.d1, .int .i64 x.leaf] 98)) :=
        hJ _ wr _ none hJs (World.grownBy_alloc wr _ none) (fun r e => by cases e)
      obtain ⟨fn, tmps, assign, body, hy, hR⟩ := hY _ x _ hJ2 (by rw [List.length_take]; omega)
      dsimp only [F.agg] at hy
      have hnx2 := hnx.alloc (Nat.le_trans hn₀ hnx.size) (.cells #[.int .i64 x.id, .int .i64 x.prio, .int .i64 x.ver, .int .u64 x.sh, .int .u64 x.sl, .int .u64 x.dh, .int .u64 x.dl, .int .i64 x.sn, .int .i64 x.dn, .int .i64 x.proto, .int .i64 x.s0, .int .i64 x.s1, .int .i64 x.d0, .int .i64 x.d1, .int .i64 x.leaf] 98)
      gi_wp2
      refine hR.mono ?_
      rintro e W3 (⟨rfl, hJ3, hk3⟩ | ⟨rfl, hJx3⟩)
      · gi_wp2
        go_roundw
        case rel => exact ⟨k + 1, by omega, by simp, by rw [List.take_add_one, hx]; exact hJ3, hnx2.trans hk3⟩
        case measure => simp [intOf]; omega
      · gi_wp2
        refine bodyPost_ret (results_none rfl _ _ _) rfl ?_
        exact ⟨⟨_, rfl⟩, .inr ⟨_, by rw [show zs.take k ++ [x] = zs.take (k + 1) by rw [List.take_add_one, hx]; rfl]; exact List.take_prefix _ _, hJx3⟩⟩
    · obtain rfl : k = zs.length := by omega
      gi_wp2
      go_end0
      exact ⟨⟨_, rfl⟩, .inl (by simpa using hJs)⟩
set_option maxRecDepth 100000 in
set_option maxHeartbeats 1000000 in
theorem values1_nil_in (Fe : Fence) (n : Nat) (h7 : Fe.fn 192) (hro : Fe.round = none) (l Bs : Nat) (J : List F → World → Prop) (W : World) (hBs : W.cell? ⟨Bs, 0, none⟩ = some (.slice none 0 0)) (h0 : J [] W) :
    CallsIn Fe n Tryz.prog 192 #[.func (.yield l) #[] #[], .pointer (some ⟨Bs, 0, none⟩)] W fun e W' => (∃ v, e = .returned v) ∧ J [] W' := by
  refine callsIn_of_wp Tryz.func192 rfl h7 ?_ hro
  simp only [Tryz.ntmps192, List.size_toArray, List.length_cons, List.length_nil, Nat.reduceAdd, Nat.reduceSub, Array.replicate_succ, Array.replicate_zero, List.push_toArray, List.append_toArray, List.nil_append, List.cons_append]
  gi_wp2
  gi_loopw [7] (fun i wr => i = .int .i64 0 ∧ J [] wr) (fun _ _ => 0)
  case atStart => exact ⟨rfl, h0⟩
  case round =>
    obtain ⟨rfl, hJs⟩ := hrel
    gi_wp2
    go_end0
    exact ⟨⟨_, rfl⟩, hJs⟩
theorem values_c (a : Option Addr) (len cap : Nat) (w : World) :
    Calls Tryz.prog 104 #[.slice a len cap] w fun e w' => e = .returned (.func (.func 192) #[] #[.pointer (some ⟨w.heap.size, 0, none⟩)]) ∧ w' = w.alloc (.cells #[.slice a len cap] 23) := by
  go_enter Tryz.func104, Tryz.ntmps104
  go_wp2
  go_ret
  exact ⟨rfl, rfl⟩
theorem values_stops (Fe : Fence) (n : Nat) (h7 : Fe.fn 192) (hro : Fe.round = none) (hn : 1 ≤ n) (Bs n₀ : Nat) (sv : Value) (zs : List F) (hreach : zs.length ≤ 1048576) (w : World) (hBs : Bs < w.heap.size) (hn₀ : n₀ ≤ w.heap.size)
    (hc : w.cell? ⟨Bs, 0, none⟩ = some sv) (hI : HoldsF n₀ w sv zs) :
    SeqStopsK Fe n Tryz.prog 192 #[.pointer (some ⟨Bs, 0, none⟩)] (fun x : F => #[x.agg]) (Below n₀) (fun ys => ys = zs) (fun pre => pre <+: zs) zs.length w := fun l J Jx W hW hJ _ hY h0 => by
  have hc' := (hW.cell (p := ⟨Bs, 0, none⟩) hBs).trans hc
  rcases Li.Lies.below (hW.mono hn₀) hI with ⟨rfl, rfl⟩ | ⟨b, off, cap, rfl, hb, hcs⟩
  · exact (values1_nil_in Fe n h7 hro l Bs J W hc' h0).mono fun e W' ⟨he, hj⟩ => ⟨he, .inl ⟨_, rfl, hj⟩⟩
  · refine (values1_in Fe n h7 hro hn l Bs n₀ b off cap zs hreach hb J Jx hY W (Nat.le_trans hn₀ hW.size) hJ hc' hcs h0).mono ?_
    rintro e W' ⟨he, hj | ⟨pre, hp, hj⟩⟩
    · exact ⟨he, .inl ⟨_, rfl, hj⟩⟩
    · exact ⟨he, .inr ⟨_, hp, hj⟩⟩
theorem filter_info : (Tryz.prog.info? 98).map (fun i => (i.zero, i.size, i.bytes)) = some (some (.agg #[.int .i64 0, .int .i64 0, .int .i64 0, .int .u64 0, .int .u64 0, .int .u64 0, .int .u64 0, .int .i64 0, .int .i64 0, .int .i64 0, .int .i64 0, .int .i64 0, .int .i64 0, .int .i64 0, .int .i64 0]), 15, 120) := by kernel_rfl
theorem new_cells (W : World) (x : F) : ∀ j u, x.cells[j]? = some u → (W.alloc (.cells #[.int .i64 x.id, .int .i64 x.prio, .int .i64 x.ver, .int .u64 x.sh, .int .u64 x.sl, .int .u64 x.dh, .int .u64 x.dl, .int .i64 x.sn, .int .i64 x.dn, .int .i64 x.proto, .int .i64 x.s0, .int .i64 x.s1, .int .i64 x.d0, .int .i64 x.d1, .int .i64 x.leaf] 98)).cell? ((⟨W.heap.size, 0, none⟩ : Addr).add j) = some u := fun j u hu => by
  rw [add_zero_at]
  exact ((row_new W 98 x.cells).cell j).trans hu
set_option maxRecDepth 100000 in
set_option maxHeartbeats 4000000 in
theorem appendSeq_in (Fe : Fence) (n : Nat) (h3 : Fe.fn 236) (h5 : Fe.fn 192) (hro : Fe.round = none) (hn : 6 ≤ n)
    (Bv : Nat) (sv : Value) (zs : List F) (hreach : zs.length ≤ 1048576) (w : World) (hBv : Bv < w.heap.size) (hc : w.cell? ⟨Bv, 0, none⟩ = some sv) (hI : HoldsF w.heap.size w sv zs) :
    CallsIn Fe n Tryz.prog 236 #[.slice none 0 0, .func (.func 192) #[] #[.pointer (some ⟨Bv, 0, none⟩)]] w fun e w' =>
      ∃ v, e = .returned v ∧ w'.ownsRow w.heap.size 98 15 v zs.length (zs.flatMap F.cells) ∧ Below w.heap.size w w' := by
  have h1 : 1 ≤ n := by omega
  obtain ⟨i0, hi, hz0, hz1, hz2⟩ := info_parts filter_info
  refine callsIn_of_wp_marks Tryz.func236 rfl h3 ?_ hro
  simp only [Tryz.ntmps236, List.size_toArray, List.length_cons, List.length_nil, Nat.reduceAdd, Nat.reduceSub, Array.replicate_succ, Array.replicate_zero, List.push_toArray, List.append_toArray, List.nil_append, List.cons_append]
  gi_wp2
  have bS := Boxed.new w 23 (.slice none 0 0)
  have hB0 : Below w.heap.size w (w.alloc (.cells #[.slice none 0 0] 23)) := (Below.refl _ w).alloc (Nat.le_refl _) _
  have hsz : (w.alloc (.cells #[.slice none 0 0] 23)).heap.size = w.heap.size + 1 := by simp
  obtain ⟨W0, hW0⟩ : ∃ W0, w.alloc (.cells #[.slice none 0 0] 23) = W0 := ⟨_, rfl⟩
  rw [hW0] at bS hB0 hsz ⊢
  clear hW0
  refine wpIn_rangeFunc_ownH hro h1 (gf := 192) (lb := #[.pointer (some ⟨Bv, 0, none⟩)]) rfl h5 (enters_of Tryz.func192 (by kernel_rfl) rfl)
    (values_stops Fe (n - 1) h5 hro (by omega) Bv w.heap.size sv zs hreach W0 (by omega) (by omega) ((hB0.cell (p := ⟨Bv, 0, none⟩) hBv).trans hc) (Li.Lies.below hB0 hI)) belowK_t (belowK_b (by omega)) (Below.refl _ _) (fun _ => rfl)
    (fun pre W => (∃ v, Boxed W w.heap.size 23 v ∧ W.ownsRow w.heap.size 98 15 v pre.length (pre.flatMap F.cells) ∧ True) ∧ Below w.heap.size w W)
    (fun _ _ _ => False)
    (OwnFrom.and (Own.from (holdsRow_own w.heap.size w.heap.size 23 98 15 (fun pre : List F => pre.length) (fun pre => pre.flatMap F.cells) (fun _ _ => True)) _) (ownFrom_below (Nat.le_refl _) (by omega)))
    (fun _ _ _ _ _ hs _ _ => hs)
    ⟨⟨_, bS, World.ownsRow_nil .., trivial⟩, hB0⟩
    (fun x a' W => ∃ Bx, w.heap.size < Bx ∧ Row W Bx 98 x.cells ∧ a' = { tmps := #[.slice none 0 0, .func (.func 192) #[] #[.pointer (some ⟨Bv, 0, none⟩)], .pointer (some ⟨w.heap.size, 0, none⟩), undef, .slice none 0 0, .pointer (some ⟨Bx, 0, none⟩), .func (.func 192) #[] #[.pointer (some ⟨Bv, 0, none⟩)], x.agg, undef, undef, undef, undef, undef], defers := [] })
    (fun x a' _ X Y row hs hg hr => by obtain ⟨Bx, h1, h2, h3⟩ := hs; exact ⟨Bx, h1, row_own Bx _ (fun (_ : Unit) => x.cells) () X Y row h2 hg (fun r e => (hr r e).2), h3⟩)
    ?assign ?body ?done ?stop
  case assign =>
    rintro l pre x W K ⟨⟨v, bS1, hr1, _⟩, hB1⟩ hK
    gi_wp2
    exact hK _ _ ((KeepsOthers.alloc _ _).from _) ((Below.refl _ W).alloc hB1.size _) ⟨⟨v, bS1.alloc _, hr1.alloc _, trivial⟩, hB1.alloc hB1.size _⟩ ⟨W.heap.size, bS1.lt, row_new W _ x.cells, rfl⟩
  case body =>
    rintro l pre x a' W hl ⟨r, hr⟩ ⟨⟨v, hv, hrow, _⟩, hB⟩ ⟨Bx, hBx, bX, rfl⟩ hlt
    have cB := hv.cell
    have cf := hv.frozen
    have c0 : W.cell? ⟨Bx, 0, none⟩ = some (.int .i64 x.id) := bX.cell 0
    have c1 : W.cell? ⟨Bx, 1, none⟩ = some (.int .i64 x.prio) := bX.cell 1
    have c2 : W.cell? ⟨Bx, 2, none⟩ = some (.int .i64 x.ver) := bX.cell 2
    have c3 : W.cell? ⟨Bx, 3, none⟩ = some (.int .u64 x.sh) := bX.cell 3
    have c4 : W.cell? ⟨Bx, 4, none⟩ = some (.int .u64 x.sl) := bX.cell 4
    have c5 : W.cell? ⟨Bx, 5, none⟩ = some (.int .u64 x.dh) := bX.cell 5
    have c6 : W.cell? ⟨Bx, 6, none⟩ = some (.int .u64 x.dl) := bX.cell 6
    have c7 : W.cell? ⟨Bx, 7, none⟩ = some (.int .i64 x.sn) := bX.cell 7
    have c8 : W.cell? ⟨Bx, 8, none⟩ = some (.int .i64 x.dn) := bX.cell 8
    have c9 : W.cell? ⟨Bx, 9, none⟩ = some (.int .i64 x.proto) := bX.cell 9
    have c10 : W.cell? ⟨Bx, 10, none⟩ = some (.int .i64 x.s0) := bX.cell 10
    have c11 : W.cell? ⟨Bx, 11, none⟩ = some (.int .i64 x.s1) := bX.cell 11
    have c12 : W.cell? ⟨Bx, 12, none⟩ = some (.int .i64 x.d0) := bX.cell 12
    have c13 : W.cell? ⟨Bx, 13, none⟩ = some (.int .i64 x.d1) := bX.cell 13
    have c14 : W.cell? ⟨Bx, 14, none⟩ = some (.int .i64 x.leaf) := bX.cell 14
    gi_wp2_with (gi_at_builtin; go_must (refine wpListIn_append_own _ rfl _ _ 23 rfl w.heap.size 98 i0 _ 15 120 Tryz.underlying23 hi hz0 hz1 hz2 rfl (by decide) _ _ _ rfl (hrow.alloc _) ⟨W.heap.size, 0, none⟩ 1 1 x.cells rfl rfl (new_cells W x) (cells_one x) (by unfold maxLen; omega) (by omega) (by have := hB.size; simp; omega) ?_); intro v' w1 hown' hgrow _; obtain ⟨g', cap', rfl⟩ := ownsRow_succ hown'; obtain ⟨hv1, hv2, hr2, hk2, hb2⟩ := hv.appended (by decide) hrow hB.size (Nat.le_refl _) hown' hgrow; have hc1 := hv1.cell; have hf1 := hv1.frozen)
    exact ⟨hk2.from _, hb2, ⟨_, hv2, by simpa using hr2, trivial⟩, hB.trans hb2⟩
  case done =>
    rintro D ys W hD rfl ⟨⟨v, hv, hrow, _⟩, hB⟩ hK
    have cS := hv.cell
    gi_wp2
    refine ⟨by simp, .inl ⟨_, _, rfl, run_takeDeferred hK, ?_⟩⟩
    exact ⟨_, results_tmp rfl _ _ _, v, rfl, ownsRow_putObj hrow _ hK rfl, hB.trans (belowK_b (w := w) (Nat.le_refl _) W D _ _ (by omega) hK rfl rfl)⟩
  case stop =>
    rintro D c pre W _ _ h _
    exact h.elim
theorem swk_below {w W : World} {blk off : Nat} {d : Array F} (h : SWK F.cells 15 w blk off d W) (n : Nat) (hn : n ≤ blk) (hw : n ≤ w.heap.size) : Below n w W := by
  obtain ⟨m, os, rfl⟩ := h
  refine ⟨rfl, rfl, rfl, ?_, fun k hk => ?_⟩
  · show w.heap.size ≤ ((putRowK F.cells 15 (Sort.ahead w m) blk off d).heap ++ os).size
    rw [Array.size_append, size_putRowK]; exact Nat.le_add_right _ _
  · show ((putRowK F.cells 15 (Sort.ahead w m) blk off d).heap ++ os)[k]? = w.heap[k]?
    rw [Array.getElem?_append_left (by rw [size_putRowK]; show k < w.heap.size; omega)]
    show (w.heap.modify blk _)[k]? = w.heap[k]?
    rw [Array.getElem?_modify, if_neg (by omega)]
theorem flat_get : ∀ (zs : List F) (t : Nat), t < zs.length * 15 → (zs.flatMap F.cells)[t]? = some ((F.cells zs.toArray[t / 15]!)[t % 15]!)
  | [], t, h => by simp at h
  | x :: zs, t, h => by
    rw [List.flatMap_cons]
    by_cases ht : t < 15
    · rw [List.getElem?_append_left (by rw [cells_len]; exact ht)]
      have e1 : t / 15 = 0 := by omega
      have e2 : t % 15 = t := by omega
      rw [e1, e2]
      have hx : ((x :: zs).toArray)[0]! = x := rfl
      rw [hx]
      rw [List.getElem?_eq_getElem (by rw [cells_len]; exact ht), getElem!_pos _ _ (by rw [cells_len]; exact ht)]
    · rw [List.getElem?_append_right (by rw [cells_len]; omega), cells_len]
      have := flat_get zs (t - 15) (by simp at h; omega)
      rw [this]
      have e1 : t / 15 = (t - 15) / 15 + 1 := by omega
      have e2 : (t - 15) % 15 = t % 15 := by omega
      rw [e1, e2]
      congr 3
      simp [getElem!_def]
theorem owns_holdsK {w : World} {g : Nat} {zs : List F} {cur : Array Value} {e : TypeId} (hg : w.heap[g]? = some (.cells cur e (0, 0))) (ht : cur.toList.take (zs.length * 15) = zs.flatMap F.cells) : HoldsK F.cells 15 w g 0 zs.toArray := by
  intro j hj
  rw [size_flatK] at hj
  have hj' : j < zs.length * 15 := by simpa using hj
  constructor
  · have h1 := flat_get zs j hj'
    rw [← ht, List.getElem?_take, if_pos hj'] at h1
    rw [Nat.zero_add]
    simp only [World.cell?, hg]
    have h2 : cur[j]? = some ((F.cells zs.toArray[j / 15]!)[j % 15]!) := by rw [← Array.getElem?_toList]; exact h1
    rw [if_neg (by simp), h2]
    simp [flatK, hj']
  · simp [World.frozen?, hg]
theorem collect_c (Bv : Nat) (sv : Value) (zs : List F) (hreach : zs.length ≤ 1048576) (w : World) (hBv : Bv < w.heap.size) (hc : w.cell? ⟨Bv, 0, none⟩ = some sv) (hI : HoldsF w.heap.size w sv zs) :
    Calls Tryz.prog 190 #[.func (.func 192) #[] #[.pointer (some ⟨Bv, 0, none⟩)]] w fun e w' =>
      ∃ v, e = .returned v ∧ w'.ownsRow w.heap.size 98 15 v zs.length (zs.flatMap F.cells) ∧ Below w.heap.size w w' := by
  have hcon := callsIn_wide.1 (appendSeq_in Fence.wide 10 trivial trivial rfl (by omega) Bv sv zs hreach w hBv hc hI)
  go_enter Tryz.func190, Tryz.ntmps190
  go_wp2_with (go_at_call 236; refine hcon.mono ?_; rintro e w' ⟨v, rfl, h1, h2⟩)
  go_ret
  exact ⟨v, rfl, h1, h2⟩
section
variable {g : Nat} {cf : F → F → Int} {key : F → Int}
set_option maxRecDepth 100000 in
theorem insertion0 (g : Nat) (A : Option Addr) (cap : Nat) (w : World) : Calls Tryz.prog 263 #[.slice A 0 cap, .int .i64 0, .int .i64 0, .func (.func g) #[] #[]] w fun e w' => e = .returned (.tuple #[]) ∧ w' = w := by
  go_enter Tryz.func263, Tryz.ntmps263
  go_wp2
  go_loopg [8] 0 (fun _ s8 wr => s8 = .int .i64 1 ∧ wr = w)
  case atStart => exact ⟨rfl, rfl⟩
  case round =>
    obtain ⟨rfl, rfl⟩ := hrel
    go_wp2
    go_end0
    exact ⟨rfl, rfl⟩
set_option maxRecDepth 100000 in
theorem stable0 (g : Nat) (A : Option Addr) (cap : Nat) (w : World) : Calls Tryz.prog 237 #[.slice A 0 cap, .int .i64 0, .func (.func g) #[] #[]] w fun e w' => e = .returned (.tuple #[]) ∧ w' = w := by
  go_enter Tryz.func237, Tryz.ntmps237
  go_wp2
  go_loopg [7, 8] 0 (fun _ s7 s8 wr => s7 = .int .i64 0 ∧ s8 = .int .i64 20 ∧ wr = w)
  case atStart => exact ⟨rfl, rfl, rfl⟩
  case round =>
    obtain ⟨rfl, rfl, rfl⟩ := hrel
    go_wp2_with (go_at_call 263; refine (insertion0 _ _ _ _).mono ?_; rintro e w' ⟨rfl, rfl⟩)
    go_loopg [6, 7, 8, 9] 0 (fun _ s6 s7 s8 s9 wr' => s6 = .int .i64 20 ∧ wr' = w')
    case atStart => exact ⟨rfl, rfl⟩
    case round =>
      obtain ⟨rfl, rfl⟩ := hrel
      go_wp2
      go_end0
      exact ⟨rfl, rfl⟩
theorem sortStable0 (g : Nat) (A : Option Addr) (cap : Nat) (w : World) : Calls Tryz.prog 191 #[.slice A 0 cap, .func (.func g) #[] #[]] w fun e w' => e = .returned (.tuple #[]) ∧ w' = w := by
  go_enter Tryz.func191, Tryz.ntmps191
  go_wp2_with (go_at_call 237; refine (stable0 _ _ _ _).mono ?_; rintro e w' ⟨rfl, rfl⟩)
  go_end0
  exact ⟨rfl, rfl⟩
theorem holdsK_holds {W : World} {g cap N : Nat} {d : Array F} (h : HoldsK F.cells 15 W g 0 d) (hg : g < N) : HoldsF N W (.slice (some ⟨g, 0, none⟩) d.size cap) d.toList := by
  refine .inr ⟨g, 0, cap, by simp, hg, fun j x hx i v hv => ?_⟩
  obtain ⟨hj, hx'⟩ := List.getElem?_eq_some_iff.1 hx
  have hj' : j < d.size := by simpa using hj
  obtain ⟨hi, hv'⟩ := List.getElem?_eq_some_iff.1 hv
  have hi' : i < 15 := hi
  have := (h.cell (i := j) (c := i) hj' hi').1
  have e : d[j]! = x := by rw [getElem!_pos d j hj']; simpa using hx'
  rw [e, getElem!_pos x.cells i hi, hv'] at this
  exact this
theorem sort_owned (C : Cmp g cf key) {w : World} {base : Nat} {v : Value} {zs : List F} (h : w.ownsRow base 98 15 v zs.length (zs.flatMap F.cells)) (hb : base ≤ w.heap.size) (hn : zs.length ≤ 1048576) :
    Calls Tryz.prog 191 #[v, .func (.func g) #[] #[]] w fun e w' =>
      e = .returned (.tuple #[]) ∧ HoldsF w'.heap.size w' v (sortK key zs) ∧ (∀ p, v = .slice (some p) zs.length (match v with | .slice _ _ c => c | _ => 0) → base ≤ p.block) ∧ Below base w w' := by
  rcases h.2 with ⟨rfl, h0⟩ | ⟨g, cap, cur, rfl, hbg, hg, hnc, _, _, ht⟩
  · have hz : zs = [] := List.eq_nil_of_length_eq_zero h0
    subst hz
    exact (sortStable0 g none 0 w).mono fun e w' ⟨he, hw⟩ => ⟨he, .inl ⟨rfl, rfl⟩, fun p hp => by simp at hp, hw ▸ Below.refl _ _⟩
  · have hH := owns_holdsK hg ht
    have hgl : g < w.heap.size := (Array.getElem?_eq_some_iff.1 hg).1
    have := sortStable C (cap := cap) hH hgl (by simp; omega)
    rw [show zs.toArray.size = zs.length by simp] at this
    refine this.mono fun e w' ⟨he, d', h1, h2, h3, h4⟩ => ⟨he, ?_, fun p hp => ?_, swk_below h4 base hbg hb⟩
    · have e : d'.toList = sortK key zs := sortK_uniq h2 h3
      rw [← e, show zs.length = d'.size from h1.symm]
      exact holdsK_holds (h4.holds hgl hH (by rw [h1]; simp)) (Nat.lt_of_lt_of_le hgl h4.le)
    · have := (Value.slice.inj hp).1
      cases this; exact hbg
theorem sortedStable_c (C : Cmp g cf key) (Bv : Nat) (sv : Value) (zs : List F) (hreach : zs.length ≤ 1048576) (w : World) (hBv : Bv < w.heap.size) (hc : w.cell? ⟨Bv, 0, none⟩ = some sv) (hI : HoldsF w.heap.size w sv zs) :
    Calls Tryz.prog 103 #[.func (.func 192) #[] #[.pointer (some ⟨Bv, 0, none⟩)], .func (.func g) #[] #[]] w fun e w' =>
      ∃ v, e = .returned v ∧ HoldsF w'.heap.size w' v (sortK key zs) ∧ Below w.heap.size w w' := by
  have h1 := collect_c Bv sv zs hreach w hBv hc hI
  have h2 := fun (v : Value) (w1 : World) (h : w1.ownsRow w.heap.size 98 15 v zs.length (zs.flatMap F.cells)) (hb : w.heap.size ≤ w1.heap.size) => sort_owned C h hb hreach
  have H2 := Lib.hid h2
  clear h2
  go_enter Tryz.func103, Tryz.ntmps103
  go_wp2_with (first
    | (go_at_call 190; refine h1.mono ?_; rintro e w1 ⟨v, rfl, g1, b1⟩)
    | (go_at_call 191; refine (H2.out _ _ g1 b1.size).mono ?_; rintro e w2 ⟨rfl, g2, _, b2⟩))
  go_ret
  exact ⟨v, rfl, g2, b1.trans b2⟩
end
theorem cmpD_call (x y : F) (w : World) : Calls Tryz.prog 105 #[x.agg, y.agg] w fun e w' => e = .returned (.int .i64 (cmpD x y)) ∧ ∃ q os', w' = grow (w.drewN q) os' := by
  have hcon := fun W' => compare_i x.id y.id W'
  unfold cmpD cmpN
  generalize (if x.id < y.id then (-1 : Int) else if x.id > y.id then 1 else 0) = r at hcon ⊢
  unfold F.agg
  go_enter Tryz.func105, Tryz.ntmps105
  go_wp2_with (go_at_call 106; refine (hcon _).mono ?_; rintro e w' ⟨rfl, rfl⟩)
  go_ret
  exact ⟨rfl, 0, _, by rw [alloc_eq_grow, alloc_eq_grow, grow_grow]; rfl⟩
theorem cmpD_is : Cmp 105 cmpD F.id := ⟨cmpD_lt, cmpD_call, enters_of Tryz.func105 (by kernel_rfl) rfl⟩
end Go.Proofs.YtpchhfhmopmagaaGreat.Fi
