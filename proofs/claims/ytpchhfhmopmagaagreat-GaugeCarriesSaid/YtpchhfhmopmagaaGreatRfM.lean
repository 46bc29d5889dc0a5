/- The reference's Children, IDs; a tree's Leaves. The reference's IDs, Leaves, Root, Rise, Level. The reference's Rise, Level. The reference's Check. -/
import Derived.Test.YtpchhfhmopmagaaGreatTr8
import Derived.Test.YtpchhfhmopmagaaGreatSsM
set_option linter.unusedVariables false
set_option linter.unusedSimpArgs false
/- The reference's Children, IDs; a tree's Leaves. -/
namespace Go.Proofs.YtpchhfhmopmagaaGreat.Tr
open Go.RowKit Go.Maps Go.Proofs.YtpchhfhmopmagaaGreat.Wd Go.Proofs.YtpchhfhmopmagaaGreat.Li Go.Proofs.YtpchhfhmopmagaaGreat.Mp Go.Proofs.YtpchhfhmopmagaaGreat.Tp Go.Proofs.YtpchhfhmopmagaaGreat.Cl Go.Proofs.YtpchhfhmopmagaaGreat.So Go.Proofs.YtpchhfhmopmagaaGreat.Sw
attribute [local go_sem] run_store_float

theorem cls_len (x : Cls) : x.cells.length = 11 := rfl
/-- what the reference's Sorted gives, to be read -/
def SortOk (l : List Cls) (w : World) (e : Ending) (w' : World) : Prop := ∃ A c, e = .returned (.slice A l.length c) ∧ (0 < l.length → ∃ b off, A = some ⟨b, off, none⟩ ∧ b < w'.heap.size ∧ ∀ (j : Nat) (x : Cls), (sortC l)[j]? = some x → ∀ (i : Nat) (v : Value), x.cells[i]? = some v → w'.cell? ⟨b, off + j * 11 + i, none⟩ = some v) ∧ Below w.heap.size w w'
theorem refsort_c (A : Option Addr) (len cap : Nat) (l : List Cls) (hlen : l.length ≤ 1048576) (w : World) (hI : Holds w.heap.size w (.slice A len cap) l) :
    Calls Tryz.prog 68 #[.slice A len cap] w (SortOk l w) := by
  refine (refsorted_c A len cap l hlen w hI).mono ?_
  rintro e w' ⟨v, rfl, hown, hb⟩
  rw [← sortC_len] at hown
  have hl := lies_own (z := 11) (cells := Cls.cells) cls_len (by decide) hown
  obtain ⟨a, c, rfl⟩ := hl.form
  obtain ⟨_, hp⟩ := hl.parts
  rw [sortC_len] at hp ⊢
  exact ⟨a, c, rfl, hp, hb⟩
theorem push_below {B base : Nat} {w0 wr w7 : World} {o : Obj} {v : Value} {n : Nat} {xs : List Value} {e : TypeId} (h : Below B w0 wr) (hB : B ≤ base) (hw : B ≤ wr.heap.size) (hown : wr.ownsRow base e 1 v n xs) (hg : (wr.alloc o).grownBy w7 v.ownBlock) : Below B w0 w7 :=
  (h.alloc hw _).grown hg (by simp; omega) (fun q hq => Nat.le_trans hB (hown.lt q hq).1)

set_option maxRecDepth 20000 in
set_option maxHeartbeats 2000000 in
theorem refchildren_c (A : Option Addr) (len cap : Nat) (l : List Cls) (id : Int) (hlen : l.length ≤ 1000000) (w : World) (hI : Holds w.heap.size w (.slice A len cap) l) :
    Calls Tryz.prog 69 #[.slice A len cap, .int .i64 id] w (ListOk (kids l id) w) := by
  have hso := Lib.hid (refsort_c A len cap l (by omega) w hI)
  have hSL := Lib.hid (sortC_len l)
  clear hI
  go_enter Tryz.func69, Tryz.ntmps69
  go_wp2_with (go_at_call 68; refine (hso.out).mono ?_; rintro e w1 ⟨A1, c1, rfl, hcs, hb1⟩; have HCS := Lib.hid hcs; have HB1 := Lib.hid hb1; clear hcs hb1)
  have hws := HB1.out.size
  go_loopg [5, 7] l.length (fun kx s5 s7 wr => ∃ (k : Nat) (B9 : Option Addr) (c9 : Nat), s7 = .int .i64 k ∧ s5 = .slice B9 (kidsP l k id).length c9 ∧ k ≤ l.length ∧ l.length - k ≤ kx ∧ Hid (wr.ownsRow w1.heap.size 3 1 s5 (kidsP l k id).length (St.I (kidsP l k id))) ∧ Hid (Below w1.heap.size w1 wr))
  case atStart => exact ⟨0, none, 0, rfl, rfl, by omega, by omega, Lib.hid (World.ownsRow_nil ..), Lib.hid (Below.refl _ _)⟩
  case round =>
    obtain ⟨k, B9, c9, rfl, rfl, hk, hkx, HO, HW⟩ := hrel
    have hwz := HW.out.size
    by_cases hlt : k < l.length
    · have hltz : (k : Int) < (l.length : Int) := by omega
      obtain ⟨b, off, rfl, hb, hc⟩ := HCS.out (by omega)
      obtain ⟨x, hx⟩ : ∃ x, (sortC l)[k]? = some x := ⟨_, List.getElem?_eq_getElem (by rw [hSL.out]; exact hlt)⟩
      have hcx : ∀ (i : Nat) (v : Value), x.cells[i]? = some v → wr.cell? ⟨b, off + k * 11 + i, none⟩ = some v := fun i v hv => (HW.out.cell (p := ⟨b, off + k * 11 + i, none⟩) hb).trans (hc k x hx i v hv)
      have c0 : wr.cell? ⟨b, off + k * 11, none⟩ = some (.int .i64 x.id) := hcx 0 _ rfl
      have c1' := hcx 1 _ rfl
      have hol := kidsP_len (l := l) k id
      have HX := Lib.hid hx
      clear hcx hc hx
      by_cases hp : x.parent = id
      · have e1 : (x.parent == id) = true := by rw [beq_iff_eq]; exact hp
        by_cases h0 : id = 0
        · have e0 : (id != 0) = false := by rw [bne_eq_false_iff_eq]; exact h0
          have HT := Lib.hid (kidsP_out (l := l) HX.out (id := id) (.inr (hp.trans h0)))
          clear hp h0
          go_wp2_with fail
          go_roundg (l.length - (k + 1))
          case measure => omega
          case rel => exact ⟨k + 1, B9, c9, by go_num, by rw [HT.out], by omega, by omega, Lib.hid (by rw [HT.out]; exact HO.out), HW⟩
        · have e0 : (id != 0) = true := by rw [bne_iff_ne]; exact h0
          have HT : Hid (kidsP l (k + 1) id = kidsP l k id ++ [x.id]) := Lib.hid (by have := kidsP_in (l := l) HX.out (by rw [hp]; exact h0); rwa [hp] at this)
          clear hp h0
          generalize kidsP l k id = os at *
          go_wp2_with ((at_builtin; go_must (refine wpList_push_at (by rfl) _ _ 38 (by rfl) Tryz.underlying38 w1.heap.size x.id wr _ os (by rfl) HO.out (by rfl) (by omega) hwz ?_)); intro g cap7 w7 hown7 hg7 hl7; have HO7 := Lib.hid hown7; have HB7 := Lib.hid (push_below HW.out (Nat.le_refl _) hwz HO.out hg7); clear hown7 hg7 hl7)
          go_roundg (l.length - (k + 1))
          case measure => omega
          case rel => exact ⟨k + 1, some ⟨g, 0, none⟩, cap7, by go_num, by rw [HT.out]; simp, by omega, by omega, Lib.hid (by rw [HT.out]; have := HO7.out; simpa [Sv.val] using this), HB7⟩
      · have e1 : (x.parent == id) = false := by rw [beq_eq_false_iff_ne]; exact hp
        have HT := Lib.hid (kidsP_out (l := l) HX.out (id := id) (.inl (fun e => hp e.symm)))
        clear hp
        go_wp2_with fail
        go_roundg (l.length - (k + 1))
        case measure => omega
        case rel => exact ⟨k + 1, B9, c9, by go_num, by rw [HT.out], by omega, by omega, Lib.hid (by rw [HT.out]; exact HO.out), HW⟩
    · have hltz : ¬ (k : Int) < (l.length : Int) := by omega
      obtain rfl : k = l.length := by omega
      have HT : Hid (kidsP l l.length id = kids l id) := Lib.hid (by rw [← hSL.out]; exact kidsP_all id)
      rw [HT.out] at HO ⊢
      go_wp2
      go_ret
      exact ⟨B9, c9, rfl, Sl.of_own HO.out, HB1.out.trans (HW.out.mono hws)⟩
end Go.Proofs.YtpchhfhmopmagaaGreat.Tr

/- The reference's IDs, Leaves, Root, Rise, Level. -/
namespace Go.Proofs.YtpchhfhmopmagaaGreat.Tr
open Go.RowKit Go.Maps Go.Proofs.YtpchhfhmopmagaaGreat.Wd Go.Proofs.YtpchhfhmopmagaaGreat.Li Go.Proofs.YtpchhfhmopmagaaGreat.Mp Go.Proofs.YtpchhfhmopmagaaGreat.Tp Go.Proofs.YtpchhfhmopmagaaGreat.Cl Go.Proofs.YtpchhfhmopmagaaGreat.So Go.Proofs.YtpchhfhmopmagaaGreat.Sw
attribute [local go_sem] run_store_float

theorem ids_take {l : List Cls} {k : Nat} {x : Cls} (h : (sortC l)[k]? = some x) : ids ((sortC l).take (k + 1)) = ids ((sortC l).take k) ++ [x.id] := by unfold ids; rw [List.take_add_one, h, List.map_append]; rfl
theorem ids_take_len (l : List Cls) (k : Nat) : (ids ((sortC l).take k)).length ≤ k := by unfold ids; rw [List.length_map]; exact List.length_take_le _ _
/-- the leaves among the first k -/
def leavesP (l : List Cls) (k : Nat) : List Int := (ids ((sortC l).take k)).filter (fun i => decide ((kids l i).length = 0))
def leavesS (l : List Cls) : List Int := (ids (sortC l)).filter (fun i => decide ((kids l i).length = 0))
theorem leavesP_all (l : List Cls) : leavesP l (sortC l).length = leavesS l := by unfold leavesP leavesS; rw [List.take_length]
theorem leavesP_in {l : List Cls} {k : Nat} {x : Cls} (h : (sortC l)[k]? = some x) (h0 : (kids l x.id).length = 0) : leavesP l (k + 1) = leavesP l k ++ [x.id] := by unfold leavesP; rw [ids_take h, List.filter_append]; simp [List.length_eq_zero_iff.1 h0]
theorem leavesP_out {l : List Cls} {k : Nat} {x : Cls} (h : (sortC l)[k]? = some x) (h0 : (kids l x.id).length ≠ 0) : leavesP l (k + 1) = leavesP l k := by
  unfold leavesP; rw [ids_take h, List.filter_append]
  have : [x.id].filter (fun i => decide ((kids l i).length = 0)) = [] := by rw [List.filter_cons_of_neg (by simpa using h0)]; rfl
  rw [this, List.append_nil]
theorem leavesP_len (l : List Cls) (k : Nat) : (leavesP l k).length ≤ k := Nat.le_trans (List.length_filter_le _ _) (ids_take_len l k)
theorem holds_next {w w' : World} {A : Option Addr} {n c : Nat} {l : List Cls} (h : Holds w.heap.size w (.slice A n c) l) (hb : Below w.heap.size w w') : Holds w'.heap.size w' (.slice A n c) l := (h.below hb).up hb.size
set_option maxRecDepth 20000 in
set_option maxHeartbeats 2000000 in
theorem refleaves_c (A : Option Addr) (cap : Nat) (l : List Cls) (hlen : l.length ≤ 1000000) (w : World) (hI : Holds w.heap.size w (.slice A l.length cap) l) :
    Calls Tryz.prog 28 #[.slice A l.length cap] w (ListOk (leavesS l) w) := by
  have hso := Lib.hid (refsort_c A l.length cap l (by omega) w hI)
  have hSL := Lib.hid (sortC_len l)
  have HI := Lib.hid hI
  clear hI
  go_enter Tryz.func28, Tryz.ntmps28
  go_wp2_with (go_at_call 68; refine (hso.out).mono ?_; rintro e w1 ⟨A1, c1, rfl, hcs, hb1⟩; have HCS := Lib.hid hcs; have HB1 := Lib.hid hb1; clear hcs hb1)
  have hws := HB1.out.size
  go_loopg [3, 5] l.length (fun kx s3 s5 wr => ∃ (k : Nat) (B9 : Option Addr) (c9 : Nat), s5 = .int .i64 k ∧ s3 = .slice B9 (leavesP l k).length c9 ∧ k ≤ l.length ∧ l.length - k ≤ kx ∧ Hid (wr.ownsRow w1.heap.size 3 1 s3 (leavesP l k).length (St.I (leavesP l k))) ∧ Hid (Below w1.heap.size w1 wr))
  case atStart => exact ⟨0, none, 0, rfl, rfl, by omega, by omega, Lib.hid (World.ownsRow_nil ..), Lib.hid (Below.refl _ _)⟩
  case round =>
    obtain ⟨k, B9, c9, rfl, rfl, hk, hkx, HO, HW⟩ := hrel
    have hwz := HW.out.size
    by_cases hlt : k < l.length
    · have hltz : (k : Int) < (l.length : Int) := by omega
      obtain ⟨b, off, rfl, hb, hc⟩ := HCS.out (by omega)
      obtain ⟨x, hx⟩ : ∃ x, (sortC l)[k]? = some x := ⟨_, List.getElem?_eq_getElem (by rw [hSL.out]; exact hlt)⟩
      have hcw : w1.cell? ⟨b, off + k * 11, none⟩ = some (.int .i64 x.id) := hc k x hx 0 _ rfl
      have c0 : wr.cell? ⟨b, off + k * 11, none⟩ = some (.int .i64 x.id) := (HW.out.cell (p := ⟨b, off + k * 11, none⟩) hb).trans hcw
      have HCW := Lib.hid hcw
      have hol := leavesP_len l k
      have HX := Lib.hid hx
      have hch := Lib.hid (refchildren_c A l.length cap l x.id hlen wr (holds_next HI.out (HB1.out.trans (HW.out.mono hws))))
      clear hc hx hcw
      by_cases h0 : (kids l x.id).length = 0
      · have e0 : (((kids l x.id).length : Int) == 0) = true := by rw [beq_iff_eq]; omega
        have HT := Lib.hid (leavesP_in HX.out h0)
        unfold ListOk at hch
        generalize hn : (kids l x.id).length = n at *
        generalize leavesP l k = os at *
        clear h0 hn
        go_upto_region 7 with (go_at_call 69; refine (hch.out).mono ?_; rintro e w2 ⟨A2, c2, rfl, hs2, hb2⟩; have HB2 := Lib.hid hb2; clear hs2 hb2)
        have c0' : w2.cell? ⟨b, off + k * 11, none⟩ = some (.int .i64 x.id) := (HB2.out.cell (p := ⟨b, off + k * 11, none⟩) (by omega : b < wr.heap.size)).trans c0
        have hw2 := HB2.out.size
        have HO2 := Lib.hid (own_same (w' := w2) HO.out (fun q hq => HB2.out.block q (HO.out.lt q hq).2))
        have HW2 := Lib.hid (HW.out.trans (HB2.out.mono hwz))
        clear c0
        go_wp2_with ((at_builtin; go_must (refine wpList_push_at (by rfl) _ _ 38 (by rfl) Tryz.underlying38 w1.heap.size x.id w2 _ os (by rfl) HO2.out (by rfl) (by omega) (by omega) ?_)); intro g cap7 w7 hown7 hg7 hl7; have HO7 := Lib.hid hown7; have HB7 := Lib.hid (push_below HW2.out (Nat.le_refl _) (by omega) HO2.out hg7); clear hown7 hg7 hl7)
        go_roundg (l.length - (k + 1))
        case measure => omega
        case rel => exact ⟨k + 1, some ⟨g, 0, none⟩, cap7, by go_num, by rw [HT.out]; simp, by omega, by omega, Lib.hid (by rw [HT.out]; have := HO7.out; simpa [Sv.val] using this), HB7⟩
      · have e0 : (((kids l x.id).length : Int) == 0) = false := by rw [beq_eq_false_iff_ne]; omega
        have HT := Lib.hid (leavesP_out HX.out h0)
        unfold ListOk at hch
        generalize hn : (kids l x.id).length = n at *
        clear h0 hn
        go_wp2_with (go_at_call 69; refine (hch.out).mono ?_; rintro e w2 ⟨A2, c2, rfl, hs2, hb2⟩; have HB2 := Lib.hid hb2; clear hs2 hb2)
        go_roundg (l.length - (k + 1))
        case measure => omega
        case rel => exact ⟨k + 1, B9, c9, by go_num, by rw [HT.out], by omega, by omega, Lib.hid (by rw [HT.out]; exact own_same HO.out (fun q hq => HB2.out.block q (HO.out.lt q hq).2)), Lib.hid (HW.out.trans (HB2.out.mono hwz))⟩
    · have hltz : ¬ (k : Int) < (l.length : Int) := by omega
      obtain rfl : k = l.length := by omega
      have HT : Hid (leavesP l l.length = leavesS l) := Lib.hid (by rw [← hSL.out]; exact leavesP_all l)
      rw [HT.out] at HO ⊢
      go_wp2
      go_ret
      exact ⟨B9, c9, rfl, Sl.of_own HO.out, HB1.out.trans (HW.out.mono hws)⟩

end Go.Proofs.YtpchhfhmopmagaaGreat.Tr

/- The reference's Rise, Level. -/
namespace Go.Proofs.YtpchhfhmopmagaaGreat.Tr
open Go.RowKit Go.Maps Go.Proofs.YtpchhfhmopmagaaGreat.Wd Go.Proofs.YtpchhfhmopmagaaGreat.Li Go.Proofs.YtpchhfhmopmagaaGreat.Mp Go.Proofs.YtpchhfhmopmagaaGreat.Tp Go.Proofs.YtpchhfhmopmagaaGreat.Cl Go.Proofs.YtpchhfhmopmagaaGreat.So Go.Proofs.YtpchhfhmopmagaaGreat.Sw
attribute [local go_sem] run_store_float

theorem rise_some {l : List Cls} {id : Int} {c : Cls} (h : at? l id = some c) (n : Nat) : rise l (n + 1) id = rise l n c.parent := by rw [rise_succ, h]
def RetB (v : Value) (w : World) (e : Ending) (w' : World) : Prop := e = .returned v ∧ Below w.heap.size w w'
end Go.Proofs.YtpchhfhmopmagaaGreat.Tr

/- The reference's Check. -/
namespace Go.Proofs.YtpchhfhmopmagaaGreat.Tr
open Go.RowKit Go.Maps Go.Proofs.YtpchhfhmopmagaaGreat.Wd Go.Proofs.YtpchhfhmopmagaaGreat.Li Go.Proofs.YtpchhfhmopmagaaGreat.Mp Go.Proofs.YtpchhfhmopmagaaGreat.Tp Go.Proofs.YtpchhfhmopmagaaGreat.Cl Go.Proofs.YtpchhfhmopmagaaGreat.So Go.Proofs.YtpchhfhmopmagaaGreat.Sw
attribute [local go_sem] run_store_float

variable {l : List Cls}
theorem nodup_filter {p : Cls → Bool} : ∀ {l : List Cls}, (ids l).Nodup → (ids (l.filter p)).Nodup
  | [], h => h
  | x :: l, h => by
    have h' : x.id ∉ ids l ∧ (ids l).Nodup := List.nodup_cons.1 h
    by_cases hp : p x = true
    · rw [List.filter_cons_of_pos hp]
      refine List.nodup_cons.2 ⟨fun hm => h'.1 ?_, nodup_filter h'.2⟩
      obtain ⟨c, hc, e⟩ := List.mem_map.1 hm
      exact List.mem_map.2 ⟨c, (List.mem_filter.1 hc).1, e⟩
    · rw [List.filter_cons_of_neg hp]; exact nodup_filter h'.2
theorem check_is (hne : l.length ≠ 0) (h64 : ¬ 64 < l.length) : checkS l = scan l l.length := by unfold checkS; rw [if_neg hne, if_neg h64]

end Go.Proofs.YtpchhfhmopmagaaGreat.Tr
