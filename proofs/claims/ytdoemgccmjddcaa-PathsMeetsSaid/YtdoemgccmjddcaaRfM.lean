/- The reference's Children, IDs; a tree's Leaves. The reference's IDs, Leaves, Root, Rise, Level. The reference's Rise, Level. The reference's Check. -/
import Derived.Test.YtdoemgccmjddcaaTr8
import Derived.Test.YtdoemgccmjddcaaSsM
/- The reference's Children, IDs; a tree's Leaves. -/
namespace Go.Proofs.Ytdoemgccmjddcaa.Tr
open Go.RowKit Go.Maps Go.Proofs.Ytdoemgccmjddcaa.Wd Go.Proofs.Ytdoemgccmjddcaa.Li Go.Proofs.Ytdoemgccmjddcaa.Mp Go.Proofs.Ytdoemgccmjddcaa.Tp Go.Proofs.Ytdoemgccmjddcaa.Cl Go.Proofs.Ytdoemgccmjddcaa.So Go.Proofs.Ytdoemgccmjddcaa.Sw
attribute [local go_sem] run_store_float

theorem cls_len (x : Cls) : x.cells.length = 11 := rfl
/-- what the reference's Sorted gives, to be read -/
def SortOk (l : List Cls) (w : World) (e : Ending) (w' : World) : Prop := ∃ A c, e = .returned (.slice A l.length c) ∧ (0 < l.length → ∃ b off, A = some ⟨b, off, none⟩ ∧ b < w'.heap.size ∧ ∀ (j : Nat) (x : Cls), (sortC l)[j]? = some x → ∀ (i : Nat) (v : Value), x.cells[i]? = some v → w'.cell? ⟨b, off + j * 11 + i, none⟩ = some v) ∧ Below w.heap.size w w'
theorem refsort_c (A : Option Addr) (len cap : Nat) (l : List Cls) (hlen : l.length ≤ 1048576) (w : World) (hI : Holds w.heap.size w (.slice A len cap) l) :
    Calls Try.prog 49 #[.slice A len cap] w (SortOk l w) := by
  refine (refsorted_c A len cap l hlen w hI).mono ?_
  rintro e w' ⟨v, rfl, hown, hb⟩
  rw [← sortC_len] at hown
  have hl := lies_own (z := 11) (cells := Cls.cells) cls_len (by decide) hown
  obtain ⟨a, c, rfl⟩ := hl.form
  obtain ⟨_, hp⟩ := hl.parts
  rw [sortC_len] at hp ⊢
  exact ⟨a, c, rfl, hp, hb⟩
theorem push_below {B base : Nat} {w0 wr w7 : World} {o : Obj} {v : Value} {n : Nat} {xs : List Value} {e : TypeId} (h : Below B w0 wr) (hB : B ≤ base) (hw : B ≤ wr.heap.size) (hown : wr.ownsRow base e 1 v n xs) (hg : (wr.alloc o).grownBy w7 v.ownBlock) : Below B w0 w7 :=
  (h.alloc hw _).grown hg (by simp; omega) (fun q hq => Nat.le_trans hB (hown.lt q hq).1)

set_option maxRecDepth 20000 in
set_option maxHeartbeats 2000000 in
theorem refchildren_c (A : Option Addr) (len cap : Nat) (l : List Cls) (id : Int) (hlen : l.length ≤ 1000000) (w : World) (hI : Holds w.heap.size w (.slice A len cap) l) :
    Calls Try.prog 79 #[.slice A len cap, .int .i64 id] w (ListOk (kids l id) w) := by
  have hso := Lib.hid (refsort_c A len cap l (by omega) w hI)
  have hSL := Lib.hid (sortC_len l)
  clear hI
  go_enter Try.func79, Try.ntmps79
  go_wp2_with (go_at_call 49; refine (hso.out).mono ?_; rintro e w1 ⟨A1, c1, rfl, hcs, hb1⟩; have HCS := Lib.hid hcs; have HB1 := Lib.hid hb1; clear hcs hb1)
  have hws := HB1.out.size
  go_loopg [5, 7] l.length (fun kx s5 s7 wr => ∃ (k : Nat) (B9 : Option Addr) (c9 : Nat), s7 = .int .i64 k ∧ s5 = .slice B9 (kidsP l k id).length c9 ∧ k ≤ l.length ∧ l.length - k ≤ kx ∧ Hid (wr.ownsRow w1.heap.size 3 1 s5 (kidsP l k id).length (St.I (kidsP l k id))) ∧ Hid (Below w1.heap.size w1 wr))
  case atStart => exact ⟨0, none, 0, rfl, rfl, by omega, by omega, Lib.hid (World.ownsRow_nil ..), Lib.hid (Below.refl _ _)⟩
  case round =>
    obtain ⟨k, B9, c9, rfl, rfl, hk, hkx, HO, HW⟩ := hrel
    have hwz := HW.out.size
    by_cases hlt : k < l.length
    · have hltz : (k : Int) < (l.length : Int) := by omega
      obtain ⟨b, off, rfl, hb, hc⟩ := HCS.out (by omega)
      obtain ⟨x, hx⟩ : ∃ x, (sortC l)[k]? = some x := ⟨_, List.getElem?_eq_getElem (by rw [hSL.out]; exact hlt)⟩
      have hcx : ∀ (i : Nat) (v : Value), x.cells[i]? = some v → wr.cell? ⟨b, off + k * 11 + i, none⟩ = some v := fun i v hv => (HW.out.cell (p := ⟨b, off + k * 11 + i, none⟩) hb).trans (hc k x hx i v hv)
      have c0 : wr.cell? ⟨b, off + k * 11, none⟩ = some (.int .i64 x.id) := hcx 0 _ rfl
      have c1' := hcx 1 _ rfl
      have hol := kidsP_len (l := l) k id
      have HX := Lib.hid hx
      clear hcx hc hx
      by_cases hp : x.parent = id
      · have e1 : (x.parent == id) = true := by rw [beq_iff_eq]; exact hp
        by_cases h0 : id = 0
        · have e0 : (id != 0) = false := by rw [bne_eq_false_iff_eq]; exact h0
          have HT := Lib.hid (kidsP_out (l := l) HX.out (id := id) (.inr (hp.trans h0)))
          clear hp h0
          go_wp2_with fail
          go_roundg (l.length - (k + 1))
          case measure => omega
          case rel => exact ⟨k + 1, B9, c9, by go_num, by rw [HT.out], by omega, by omega, Lib.hid (by rw [HT.out]; exact HO.out), HW⟩
        · have e0 : (id != 0) = true := by rw [bne_iff_ne]; exact h0
          have HT : Hid (kidsP l (k + 1) id = kidsP l k id ++ [x.id]) := Lib.hid (by have := kidsP_in (l := l) HX.out (by rw [hp]; exact h0); rwa [hp] at this)
          clear hp h0
          generalize kidsP l k id = os at *
          go_wp2_with ((at_builtin; go_must (refine wpList_push_at (by rfl) _ _ 27 (by rfl) Try.underlying27 w1.heap.size x.id wr _ os (by rfl) HO.out (by rfl) (by omega) hwz ?_)); intro g cap7 w7 hown7 hg7 hl7; have HO7 := Lib.hid hown7; have HB7 := Lib.hid (push_below HW.out (Nat.le_refl _) hwz HO.out hg7); clear hown7 hg7 hl7)
          go_roundg (l.length - (k + 1))
          case measure => omega
          case rel => exact ⟨k + 1, some ⟨g, 0, none⟩, cap7, by go_num, by rw [HT.out]; simp, by omega, by omega, Lib.hid (by rw [HT.out]; have := HO7.out; simpa [Sv.val] using this), HB7⟩
      · have e1 : (x.parent == id) = false := by rw [beq_eq_false_iff_ne]; exact hp
        have HT := Lib.hid (kidsP_out (l := l) HX.out (id := id) (.inl (fun e => hp e.symm)))
        clear hp
        go_wp2_with fail
        go_roundg (l.length - (k + 1))
        case measure => omega
        case rel => exact ⟨k + 1, B9, c9, by go_num, by rw [HT.out], by omega, by omega, Lib.hid (by rw [HT.out]; exact HO.out), HW⟩
    · have hltz : ¬ (k : Int) < (l.length : Int) := by omega
      obtain rfl : k = l.length := by omega
      have HT : Hid (kidsP l l.length id = kids l id) := Lib.hid (by rw [← hSL.out]; exact kidsP_all id)
      rw [HT.out] at HO ⊢
      go_wp2
      go_ret
      exact ⟨B9, c9, rfl, Sl.of_own HO.out, HB1.out.trans (HW.out.mono hws)⟩
end Go.Proofs.Ytdoemgccmjddcaa.Tr

/- The reference's IDs, Leaves, Root, Rise, Level. -/
namespace Go.Proofs.Ytdoemgccmjddcaa.Tr
open Go.RowKit Go.Maps Go.Proofs.Ytdoemgccmjddcaa.Wd Go.Proofs.Ytdoemgccmjddcaa.Li Go.Proofs.Ytdoemgccmjddcaa.Mp Go.Proofs.Ytdoemgccmjddcaa.Tp Go.Proofs.Ytdoemgccmjddcaa.Cl Go.Proofs.Ytdoemgccmjddcaa.So Go.Proofs.Ytdoemgccmjddcaa.Sw
attribute [local go_sem] run_store_float

theorem ids_take {l : List Cls} {k : Nat} {x : Cls} (h : (sortC l)[k]? = some x) : ids ((sortC l).take (k + 1)) = ids ((sortC l).take k) ++ [x.id] := by unfold ids; rw [List.take_add_one, h, List.map_append]; rfl
theorem ids_take_len (l : List Cls) (k : Nat) : (ids ((sortC l).take k)).length ≤ k := by unfold ids; rw [List.length_map]; exact List.length_take_le _ _
set_option maxRecDepth 20000 in
set_option maxHeartbeats 2000000 in
theorem refids_c (A : Option Addr) (len cap : Nat) (l : List Cls) (hlen : l.length ≤ 1000000) (w : World) (hI : Holds w.heap.size w (.slice A len cap) l) :
    Calls Try.prog 74 #[.slice A len cap] w (ListOk (ids (sortC l)) w) := by
  have hso := Lib.hid (refsort_c A len cap l (by omega) w hI)
  have hSL := Lib.hid (sortC_len l)
  clear hI
  go_enter Try.func74, Try.ntmps74
  go_wp2_with (go_at_call 49; refine (hso.out).mono ?_; rintro e w1 ⟨A1, c1, rfl, hcs, hb1⟩; have HCS := Lib.hid hcs; have HB1 := Lib.hid hb1; clear hcs hb1)
  have hws := HB1.out.size
  go_loopg [3, 5] l.length (fun kx s3 s5 wr => ∃ (k : Nat) (B9 : Option Addr) (c9 : Nat), s5 = .int .i64 k ∧ s3 = .slice B9 (ids ((sortC l).take k)).length c9 ∧ k ≤ l.length ∧ l.length - k ≤ kx ∧ Hid (wr.ownsRow w1.heap.size 3 1 s3 (ids ((sortC l).take k)).length (St.I (ids ((sortC l).take k)))) ∧ Hid (Below w1.heap.size w1 wr))
  case atStart => exact ⟨0, none, 0, rfl, rfl, by omega, by omega, Lib.hid (World.ownsRow_nil ..), Lib.hid (Below.refl _ _)⟩
  case round =>
    obtain ⟨k, B9, c9, rfl, rfl, hk, hkx, HO, HW⟩ := hrel
    have hwz := HW.out.size
    by_cases hlt : k < l.length
    · have hltz : (k : Int) < (l.length : Int) := by omega
      obtain ⟨b, off, rfl, hb, hc⟩ := HCS.out (by omega)
      obtain ⟨x, hx⟩ : ∃ x, (sortC l)[k]? = some x := ⟨_, List.getElem?_eq_getElem (by rw [hSL.out]; exact hlt)⟩
      have c0 : wr.cell? ⟨b, off + k * 11, none⟩ = some (.int .i64 x.id) := (HW.out.cell (p := ⟨b, off + k * 11, none⟩) hb).trans (hc k x hx 0 _ rfl)
      have hol := ids_take_len l k
      have HT := Lib.hid (ids_take hx)
      clear hc hx
      generalize ids ((sortC l).take k) = os at *
      go_wp2_with ((at_builtin; go_must (refine wpList_push_at (by rfl) _ _ 27 (by rfl) Try.underlying27 w1.heap.size x.id wr _ os (by rfl) HO.out (by rfl) (by omega) hwz ?_)); intro g cap7 w7 hown7 hg7 hl7; have HO7 := Lib.hid hown7; have HB7 := Lib.hid (push_below HW.out (Nat.le_refl _) hwz HO.out hg7); clear hown7 hg7 hl7)
      go_roundg (l.length - (k + 1))
      case measure => omega
      case rel => exact ⟨k + 1, some ⟨g, 0, none⟩, cap7, by go_num, by rw [HT.out]; simp, by omega, by omega, Lib.hid (by rw [HT.out]; have := HO7.out; simpa [Sv.val] using this), HB7⟩
    · have hltz : ¬ (k : Int) < (l.length : Int) := by omega
      obtain rfl : k = l.length := by omega
      have HT : Hid (ids ((sortC l).take l.length) = ids (sortC l)) := Lib.hid (by rw [← hSL.out, List.take_length])
      rw [HT.out] at HO ⊢
      go_wp2
      go_ret
      exact ⟨B9, c9, rfl, Sl.of_own HO.out, HB1.out.trans (HW.out.mono hws)⟩

/-- the leaves among the first k -/
def leavesP (l : List Cls) (k : Nat) : List Int := (ids ((sortC l).take k)).filter (fun i => decide ((kids l i).length = 0))
def leavesS (l : List Cls) : List Int := (ids (sortC l)).filter (fun i => decide ((kids l i).length = 0))
theorem leavesP_all (l : List Cls) : leavesP l (sortC l).length = leavesS l := by unfold leavesP leavesS; rw [List.take_length]
theorem leavesP_in {l : List Cls} {k : Nat} {x : Cls} (h : (sortC l)[k]? = some x) (h0 : (kids l x.id).length = 0) : leavesP l (k + 1) = leavesP l k ++ [x.id] := by unfold leavesP; rw [ids_take h, List.filter_append]; simp [List.length_eq_zero_iff.1 h0]
theorem leavesP_out {l : List Cls} {k : Nat} {x : Cls} (h : (sortC l)[k]? = some x) (h0 : (kids l x.id).length ≠ 0) : leavesP l (k + 1) = leavesP l k := by
  unfold leavesP; rw [ids_take h, List.filter_append]
  have : [x.id].filter (fun i => decide ((kids l i).length = 0)) = [] := by rw [List.filter_cons_of_neg (by simpa using h0)]; rfl
  rw [this, List.append_nil]
theorem leavesP_len (l : List Cls) (k : Nat) : (leavesP l k).length ≤ k := Nat.le_trans (List.length_filter_le _ _) (ids_take_len l k)
theorem holds_next {w w' : World} {A : Option Addr} {n c : Nat} {l : List Cls} (h : Holds w.heap.size w (.slice A n c) l) (hb : Below w.heap.size w w') : Holds w'.heap.size w' (.slice A n c) l := (h.below hb).up hb.size
set_option maxRecDepth 20000 in
set_option maxHeartbeats 2000000 in
theorem refleaves_c (A : Option Addr) (cap : Nat) (l : List Cls) (hlen : l.length ≤ 1000000) (w : World) (hI : Holds w.heap.size w (.slice A l.length cap) l) :
    Calls Try.prog 76 #[.slice A l.length cap] w (ListOk (leavesS l) w) := by
  have hso := Lib.hid (refsort_c A l.length cap l (by omega) w hI)
  have hSL := Lib.hid (sortC_len l)
  have HI := Lib.hid hI
  clear hI
  go_enter Try.func76, Try.ntmps76
  go_wp2_with (go_at_call 49; refine (hso.out).mono ?_; rintro e w1 ⟨A1, c1, rfl, hcs, hb1⟩; have HCS := Lib.hid hcs; have HB1 := Lib.hid hb1; clear hcs hb1)
  have hws := HB1.out.size
  go_loopg [3, 5] l.length (fun kx s3 s5 wr => ∃ (k : Nat) (B9 : Option Addr) (c9 : Nat), s5 = .int .i64 k ∧ s3 = .slice B9 (leavesP l k).length c9 ∧ k ≤ l.length ∧ l.length - k ≤ kx ∧ Hid (wr.ownsRow w1.heap.size 3 1 s3 (leavesP l k).length (St.I (leavesP l k))) ∧ Hid (Below w1.heap.size w1 wr))
  case atStart => exact ⟨0, none, 0, rfl, rfl, by omega, by omega, Lib.hid (World.ownsRow_nil ..), Lib.hid (Below.refl _ _)⟩
  case round =>
    obtain ⟨k, B9, c9, rfl, rfl, hk, hkx, HO, HW⟩ := hrel
    have hwz := HW.out.size
    by_cases hlt : k < l.length
    · have hltz : (k : Int) < (l.length : Int) := by omega
      obtain ⟨b, off, rfl, hb, hc⟩ := HCS.out (by omega)
      obtain ⟨x, hx⟩ : ∃ x, (sortC l)[k]? = some x := ⟨_, List.getElem?_eq_getElem (by rw [hSL.out]; exact hlt)⟩
      have hcw : w1.cell? ⟨b, off + k * 11, none⟩ = some (.int .i64 x.id) := hc k x hx 0 _ rfl
      have c0 : wr.cell? ⟨b, off + k * 11, none⟩ = some (.int .i64 x.id) := (HW.out.cell (p := ⟨b, off + k * 11, none⟩) hb).trans hcw
      have HCW := Lib.hid hcw
      have hol := leavesP_len l k
      have HX := Lib.hid hx
      have hch := Lib.hid (refchildren_c A l.length cap l x.id hlen wr (holds_next HI.out (HB1.out.trans (HW.out.mono hws))))
      clear hc hx hcw
      by_cases h0 : (kids l x.id).length = 0
      · have e0 : (((kids l x.id).length : Int) == 0) = true := by rw [beq_iff_eq]; omega
        have HT := Lib.hid (leavesP_in HX.out h0)
        unfold ListOk at hch
        generalize hn : (kids l x.id).length = n at *
        generalize leavesP l k = os at *
        clear h0 hn
        go_upto_region 7 with (go_at_call 79; refine (hch.out).mono ?_; rintro e w2 ⟨A2, c2, rfl, hs2, hb2⟩; have HB2 := Lib.hid hb2; clear hs2 hb2)
        have c0' : w2.cell? ⟨b, off + k * 11, none⟩ = some (.int .i64 x.id) := (HB2.out.cell (p := ⟨b, off + k * 11, none⟩) (by omega : b < wr.heap.size)).trans c0
        have hw2 := HB2.out.size
        have HO2 := Lib.hid (own_same (w' := w2) HO.out (fun q hq => HB2.out.block q (HO.out.lt q hq).2))
        have HW2 := Lib.hid (HW.out.trans (HB2.out.mono hwz))
        clear c0
        go_wp2_with ((at_builtin; go_must (refine wpList_push_at (by rfl) _ _ 27 (by rfl) Try.underlying27 w1.heap.size x.id w2 _ os (by rfl) HO2.out (by rfl) (by omega) (by omega) ?_)); intro g cap7 w7 hown7 hg7 hl7; have HO7 := Lib.hid hown7; have HB7 := Lib.hid (push_below HW2.out (Nat.le_refl _) (by omega) HO2.out hg7); clear hown7 hg7 hl7)
        go_roundg (l.length - (k + 1))
        case measure => omega
        case rel => exact ⟨k + 1, some ⟨g, 0, none⟩, cap7, by go_num, by rw [HT.out]; simp, by omega, by omega, Lib.hid (by rw [HT.out]; have := HO7.out; simpa [Sv.val] using this), HB7⟩
      · have e0 : (((kids l x.id).length : Int) == 0) = false := by rw [beq_eq_false_iff_ne]; omega
        have HT := Lib.hid (leavesP_out HX.out h0)
        unfold ListOk at hch
        generalize hn : (kids l x.id).length = n at *
        clear h0 hn
        go_wp2_with (go_at_call 79; refine (hch.out).mono ?_; rintro e w2 ⟨A2, c2, rfl, hs2, hb2⟩; have HB2 := Lib.hid hb2; clear hs2 hb2)
        go_roundg (l.length - (k + 1))
        case measure => omega
        case rel => exact ⟨k + 1, B9, c9, by go_num, by rw [HT.out], by omega, by omega, Lib.hid (by rw [HT.out]; exact own_same HO.out (fun q hq => HB2.out.block q (HO.out.lt q hq).2)), Lib.hid (HW.out.trans (HB2.out.mono hwz))⟩
    · have hltz : ¬ (k : Int) < (l.length : Int) := by omega
      obtain rfl : k = l.length := by omega
      have HT : Hid (leavesP l l.length = leavesS l) := Lib.hid (by rw [← hSL.out]; exact leavesP_all l)
      rw [HT.out] at HO ⊢
      go_wp2
      go_ret
      exact ⟨B9, c9, rfl, Sl.of_own HO.out, HB1.out.trans (HW.out.mono hws)⟩

theorem root_hit {l : List Cls} {k : Nat} {x : Cls} (hx : l[k]? = some x) (hp : x.parent = 0) (hn : ∀ c ∈ l.take k, c.parent ≠ 0) : rootS l = x.id := by
  have : l.find? (fun c => c.parent == 0) = some x := by
    rw [List.find?_eq_some_iff_getElem]
    obtain ⟨hk, e⟩ := List.getElem?_eq_some_iff.1 hx
    refine ⟨by simpa using hp, k, hk, e, fun j hj => ?_⟩
    have := hn l[j] (List.mem_iff_getElem?.2 ⟨j, by rw [List.getElem?_take_of_lt hj]; exact List.getElem?_eq_getElem (by omega)⟩)
    simpa using this
  unfold rootS; rw [this]
theorem root_miss {l : List Cls} (hn : ∀ c ∈ l, c.parent ≠ 0) : rootS l = 0 := by
  have : l.find? (fun c => c.parent == 0) = none := by rw [List.find?_eq_none]; intro c hc; simpa using hn c hc
  unfold rootS; rw [this]
set_option maxRecDepth 20000 in
set_option maxHeartbeats 1000000 in
theorem refroot_c (A : Option Addr) (len cap N : Nat) (l : List Cls) (hlen : l.length ≤ 1000000) (w : World) (hI : Holds N w (.slice A len cap) l) :
    Calls Try.prog 72 #[.slice A len cap] w fun e w' => e = .returned (.int .i64 (rootS l)) ∧ w = w' := by
  obtain ⟨rfl, hcs⟩ := holds_parts hI
  have HCS := Lib.hid hcs
  clear hcs hI
  go_enter Try.func72, Try.ntmps72
  go_wp2_with fail
  go_loopg [3] l.length (fun kx s3 wr => ∃ k : Nat, s3 = .int .i64 k ∧ k ≤ l.length ∧ l.length - k ≤ kx ∧ wr = w ∧ Hid (∀ c ∈ l.take k, c.parent ≠ 0))
  case atStart => exact ⟨0, rfl, by omega, by omega, rfl, Lib.hid (by simp)⟩
  case round =>
    obtain ⟨k, rfl, hk, hkx, rfl, HN⟩ := hrel
    by_cases hlt : k < l.length
    · have hltz : (k : Int) < (l.length : Int) := by omega
      obtain ⟨b, off, rfl, hb, hc⟩ := HCS.out (by omega)
      obtain ⟨x, hx⟩ : ∃ x, l[k]? = some x := ⟨_, List.getElem?_eq_getElem hlt⟩
      have c0 : wr.cell? ⟨b, off + k * 11, none⟩ = some (.int .i64 x.id) := hc k x hx 0 _ rfl
      have c1' := hc k x hx 1 _ rfl
      have HX := Lib.hid hx
      clear hc hx
      by_cases hp : x.parent = 0
      · have e1 : (x.parent == 0) = true := by rw [beq_iff_eq]; exact hp
        have HR := Lib.hid (root_hit HX.out hp HN.out)
        clear hp
        go_wp2
        go_ret
        exact ⟨by rw [HR.out]; rfl, rfl⟩
      · have e1 : (x.parent == 0) = false := by rw [beq_eq_false_iff_ne]; exact hp
        have HP := Lib.hid hp
        clear hp
        go_wp2
        go_roundg (l.length - (k + 1))
        case measure => omega
        case rel => exact ⟨k + 1, by go_num, by omega, by omega, rfl, Lib.hid (fun c hc => by rcases (take_cls HX.out).1 hc with h | rfl; exact HN.out c h; exact HP.out)⟩
    · have hltz : ¬ (k : Int) < (l.length : Int) := by omega
      obtain rfl : k = l.length := by omega
      have HR : Hid (rootS l = 0) := Lib.hid (root_miss (by have := HN.out; rwa [List.take_length] at this))
      go_wp2
      go_ret
      exact ⟨by rw [HR.out]; rfl, rfl⟩
end Go.Proofs.Ytdoemgccmjddcaa.Tr

/- The reference's Rise, Level. -/
namespace Go.Proofs.Ytdoemgccmjddcaa.Tr
open Go.RowKit Go.Maps Go.Proofs.Ytdoemgccmjddcaa.Wd Go.Proofs.Ytdoemgccmjddcaa.Li Go.Proofs.Ytdoemgccmjddcaa.Mp Go.Proofs.Ytdoemgccmjddcaa.Tp Go.Proofs.Ytdoemgccmjddcaa.Cl Go.Proofs.Ytdoemgccmjddcaa.So Go.Proofs.Ytdoemgccmjddcaa.Sw
attribute [local go_sem] run_store_float

theorem rise_none {l : List Cls} {id : Int} (h : at? l id = none) (n : Nat) : rise l (n + 1) id = 0 := by rw [rise_succ, h]
theorem rise_some {l : List Cls} {id : Int} {c : Cls} (h : at? l id = some c) (n : Nat) : rise l (n + 1) id = rise l n c.parent := by rw [rise_succ, h]
set_option maxRecDepth 20000 in
set_option maxHeartbeats 1000000 in
theorem refrise_c (A : Option Addr) (len cap N m : Nat) (l : List Cls) (hlen : l.length ≤ 1000000) (hm : m ≤ 1000000) (id : Int) (w : World) (hI : Holds N w (.slice A len cap) l) :
    Calls Try.prog 138 #[.slice A len cap, .int .i64 id, .int .i64 (m : Int)] w fun e w' => e = .returned (.int .i64 (rise l m id)) ∧ w = w' := by
  obtain ⟨rfl, hcs⟩ := holds_parts hI
  have HCS := Lib.hid hcs
  have hfind := Lib.hid (fun i => reffind_c A l.length cap N l i (by omega) w hI)
  clear hcs hI
  go_enter Try.func138, Try.ntmps138
  go_wp2_with fail
  go_loopg [1, 7] m (fun kx s1 s7 wr => ∃ (k : Nat) (cur : Int), s7 = .int .i64 k ∧ s1 = .int .i64 cur ∧ k ≤ m ∧ m - k ≤ kx ∧ wr = w ∧ Hid (rise l m id = rise l (m - k) cur))
  case atStart => exact ⟨0, id, rfl, rfl, by omega, by omega, rfl, Lib.hid rfl⟩
  case round =>
    obtain ⟨k, cur, rfl, rfl, hk, hkx, rfl, HR⟩ := hrel
    by_cases hlt : k < m
    · have hltz : (k : Int) < (m : Int) := by omega
      obtain ⟨p, hp⟩ : ∃ p, m - k = p + 1 := ⟨m - k - 1, by omega⟩
      have hp' : m - (k + 1) = p := by omega
      rcases find_at (zs := l) (id := cur) with ⟨hf, ha⟩ | ⟨i, c, hf, hc, ha⟩
      · have hfz : decide (findC l cur < 0) = true := decide_eq_true hf
        have HZ : Hid (rise l m id = 0) := Lib.hid (by rw [HR.out, hp, rise_none ha])
        clear hf ha hp hp'
        go_wp2_with (go_at_call 51; refine (hfind.out _).mono ?_; rintro e w2 ⟨rfl, rfl⟩)
        go_ret
        exact ⟨by rw [HZ.out]; rfl, rfl⟩
      · have hil := (List.getElem?_eq_some_iff.1 hc).1
        obtain ⟨b, off, rfl, hb, hcc⟩ := HCS.out (by omega)
        have c1' := hcc i c hc 1 _ rfl
        have HZ : Hid (rise l m id = rise l (m - (k + 1)) c.parent) := Lib.hid (by rw [HR.out, hp, hp', rise_some ha])
        have hfi := Lib.hid (hfind.out cur)
        rw [hf] at hfi
        have hilz : (i : Int) < (l.length : Int) := by omega
        clear hf ha hp hp' hcc hc
        go_wp2_with (go_at_call 51; refine (hfi.out).mono ?_; rintro e w2 ⟨rfl, rfl⟩)
        go_roundg (m - (k + 1))
        case measure => omega
        case rel => exact ⟨k + 1, c.parent, by go_num, rfl, by omega, by omega, rfl, HZ⟩
    · have hltz : ¬ (k : Int) < (m : Int) := by omega
      obtain rfl : k = m := by omega
      have HZ : Hid (rise l k id = cur) := Lib.hid (by rw [HR.out, Nat.sub_self]; rfl)
      go_wp2
      go_ret
      exact ⟨by rw [HZ.out]; rfl, rfl⟩

def RetB (v : Value) (w : World) (e : Ending) (w' : World) : Prop := e = .returned v ∧ Below w.heap.size w w'
set_option maxRecDepth 20000 in
theorem reflevel_none (A : Option Addr) (len cap : Nat) (l : List Cls) (hlen : l.length ≤ 1000000) (id : Int) (hid : id ∉ ids l) (w : World) (hI : Holds w.heap.size w (.slice A len cap) l) :
    Calls Try.prog 82 #[.slice A len cap, .int .i64 id] w (RetB (.int .i64 0) w) := by
  have hfind := Lib.hid (reffind_c A len cap w.heap.size l id (by omega) w hI)
  have hfz : decide (findC l id < 0) = true := decide_eq_true (find_neg.2 hid)
  clear hI
  go_enter Try.func82, Try.ntmps82
  go_wp2_with (go_at_call 51; refine (hfind.out).mono ?_; rintro e w2 ⟨rfl, rfl⟩)
  go_ret
  exact ⟨rfl, Below.refl _ _⟩
set_option maxRecDepth 20000 in
set_option maxHeartbeats 2000000 in
theorem reflevel_c (A : Option Addr) (cap : Nat) (l : List Cls) (hlen : l.length ≤ 64) : ∀ (d : Nat) (id : Int), d ≤ 64 → Deep l d id → id ∈ ids l → ∀ (w : World), Holds w.heap.size w (.slice A l.length cap) l →
    Calls Try.prog 82 #[.slice A l.length cap, .int .i64 id] w (RetB (.int .i64 (level l id)) w) := by
  intro d
  induction d with
  | zero => intro id _ h; exact h.elim
  | succ d ih =>
    intro id hd hD hid w hI
    have hfind := Lib.hid (reffind_c A l.length cap w.heap.size l id (by omega) w hI)
    have hfz : decide (findC l id < 0) = false := decide_eq_false (fun h => find_neg.1 h hid)
    have hch := Lib.hid (refchildren_c A l.length cap l id (by omega) w hI)
    have hlev := Lib.hid (level_eq (l := l) (d := d) (by omega) hD)
    have hklen := kids_len l id
    have HIH := Lib.hid ih; have HD := Lib.hid hD; have HI := Lib.hid hI
    clear ih hD hid hI
    go_enter Try.func82, Try.ntmps82
    go_wp2_with (first
      | (go_at_call 51; refine (hfind.out).mono ?_; rintro e w2 ⟨rfl, rfl⟩)
      | (go_at_call 79; refine (hch.out).mono ?_; rintro e w1 ⟨A1, c1, rfl, hs1, hb1⟩; have HS1 := Lib.hid hs1; have HB1 := Lib.hid hb1; clear hs1 hb1))
    have hws := HB1.out.size
    go_loopg [5, 7] (kids l id).length (fun kx s5 s7 wr => ∃ j : Nat, s7 = .int .i64 j ∧ s5 = .int .i64 (most l ((kids l id).take j)) ∧ j ≤ (kids l id).length ∧ (kids l id).length - j ≤ kx ∧ Hid (Below w1.heap.size w1 wr))
    case atStart => exact ⟨0, rfl, rfl, by omega, by omega, Lib.hid (Below.refl _ _)⟩
    case round =>
      obtain ⟨j, rfl, rfl, hj, hjx, HW⟩ := hrel
      have hwz := HW.out.size
      by_cases hlt : j < (kids l id).length
      · have hltz : (j : Int) < ((kids l id).length : Int) := by omega
        obtain ⟨k, hk⟩ : ∃ k, (kids l id)[j]? = some k := ⟨_, List.getElem?_eq_getElem hlt⟩
        obtain ⟨a, u, rfl, hab, hu, hc⟩ := (HS1.out.below HW.out).cell1 (k := j) hlt
        unfold St.I at hu
        simp only [List.getElem?_map] at hu
        obtain ⟨x, hx0, rfl⟩ := Option.map_eq_some_iff.1 hu
        rw [hk] at hx0
        obtain rfl : k = x := by injection hx0
        have hkm : k ∈ kids l id := List.mem_of_getElem? hk
        have hms := Lib.hid (most_succ (l := l) hk)
        have hmb := most_bd (l := l) ((kids l id).take j)
        have hlb := level_bd (l := l) k
        have hcall := HIH.out k (by omega) (HD.out k hkm) (kids_ids hkm) wr ((HI.out.below (HB1.out.trans (HW.out.mono hws))).up (by omega))
        have HC := Lib.hid hcall
        clear hcall hk hkm hu hx0
        generalize most l ((kids l id).take j) = mx at *
        generalize level l k = lv at *
        unfold RetB at HC
        go_wp2_with (go_at_call 82; refine (HC.out).mono ?_; rintro e w2 ⟨rfl, hb2⟩; have HB2 := Lib.hid hb2; clear hb2)
        all_goals
          go_roundg ((kids l id).length - (j + 1))
          case measure => omega
          case rel => exact ⟨j + 1, by go_num, by rw [hms.out], by omega, by omega, Lib.hid (HW.out.trans (HB2.out.mono hwz))⟩
      · have hltz : ¬ (j : Int) < ((kids l id).length : Int) := by omega
        obtain rfl : j = (kids l id).length := by omega
        rw [List.take_length]
        have hmb := most_bd (l := l) (kids l id)
        go_wp2
        go_ret
        exact ⟨by rw [hlev.out]; rfl, HB1.out.trans (HW.out.mono hws)⟩
end Go.Proofs.Ytdoemgccmjddcaa.Tr

/- The reference's Check. -/
namespace Go.Proofs.Ytdoemgccmjddcaa.Tr
open Go.RowKit Go.Maps Go.Proofs.Ytdoemgccmjddcaa.Wd Go.Proofs.Ytdoemgccmjddcaa.Li Go.Proofs.Ytdoemgccmjddcaa.Mp Go.Proofs.Ytdoemgccmjddcaa.Tp Go.Proofs.Ytdoemgccmjddcaa.Cl Go.Proofs.Ytdoemgccmjddcaa.So Go.Proofs.Ytdoemgccmjddcaa.Sw
attribute [local go_sem] run_store_float

variable {l : List Cls}
theorem find_lt {k : Nat} {x : Cls} (hx : l[k]? = some x) : findC l x.id < (k : Int) ↔ ¬ findC (l.take k) x.id < 0 := by
  rw [find_neg]
  rcases find_cases l x.id with ⟨h, hn⟩ | ⟨i, c, h, hc, he, hm⟩
  · exact absurd (List.mem_map.2 ⟨x, List.mem_of_getElem? hx, rfl⟩) hn
  · rw [h, Classical.not_not]
    constructor
    · intro hlt
      exact List.mem_map.2 ⟨c, List.mem_iff_getElem?.2 ⟨i, by rw [List.getElem?_take_of_lt (by omega)]; exact hc⟩, he⟩
    · intro hin
      obtain ⟨d, hd, hde⟩ := List.mem_map.1 hin
      obtain ⟨j, hj⟩ := List.mem_iff_getElem?.1 hd
      have hjl := (List.getElem?_eq_some_iff.1 hj).1
      rw [List.length_take] at hjl
      rw [List.getElem?_take_of_lt (by omega)] at hj
      rcases Nat.lt_or_ge i k with h1 | h1
      · omega
      · exact absurd hde (hm j d (by omega) hj)
def nroot (l : List Cls) (k : Nat) : Nat := ((l.take k).filter (fun c => c.parent == 0)).length
theorem nroot_in {k : Nat} {x : Cls} (hx : l[k]? = some x) (hp : x.parent = 0) : nroot l (k + 1) = nroot l k + 1 := by
  unfold nroot; rw [List.take_add_one, hx, List.filter_append, List.length_append]; simp [hp]
theorem nroot_out {k : Nat} {x : Cls} (hx : l[k]? = some x) (hp : x.parent ≠ 0) : nroot l (k + 1) = nroot l k := by
  unfold nroot; rw [List.take_add_one, hx, List.filter_append, List.length_append]
  have : (Option.toList (some x)).filter (fun c => c.parent == 0) = [] := by simp [hp]
  rw [this]; simp
theorem nroot_le (l : List Cls) (k : Nat) : nroot l k ≤ k := Nat.le_trans (List.length_filter_le _ _) (List.length_take_le _ _)
theorem nodup_filter {p : Cls → Bool} : ∀ {l : List Cls}, (ids l).Nodup → (ids (l.filter p)).Nodup
  | [], h => h
  | x :: l, h => by
    have h' : x.id ∉ ids l ∧ (ids l).Nodup := List.nodup_cons.1 h
    by_cases hp : p x = true
    · rw [List.filter_cons_of_pos hp]
      refine List.nodup_cons.2 ⟨fun hm => h'.1 ?_, nodup_filter h'.2⟩
      obtain ⟨c, hc, e⟩ := List.mem_map.1 hm
      exact List.mem_map.2 ⟨c, (List.mem_filter.1 hc).1, e⟩
    · rw [List.filter_cons_of_neg hp]; exact nodup_filter h'.2
theorem nroot_one (G : Tp.Good l) {r : Int} (R : Tp.Root l r) : nroot l l.length = 1 := by
  unfold nroot
  rw [List.take_length]
  have hn := nodup_filter (p := fun c => c.parent == 0) G.nodup
  have hall : ∀ c ∈ l.filter (fun c => c.parent == 0), c.id = r := fun c hc => R.one c (List.mem_filter.1 hc).1 (by simpa using (List.mem_filter.1 hc).2)
  obtain ⟨c, hc, _, hp⟩ := R.root
  have hm : c ∈ l.filter (fun c => c.parent == 0) := List.mem_filter.2 ⟨hc, by simpa using hp⟩
  generalize l.filter (fun c => c.parent == 0) = m at *
  match m, hm with
  | [x], _ => rfl
  | x :: y :: m, _ =>
    exfalso
    have h1 := hall x (by simp); have h2 := hall y (by simp)
    have h3 : x.id ∉ ids (y :: m) := (List.nodup_cons.1 hn).1
    exact h3 (List.mem_map.2 ⟨y, by simp, h2.trans h1.symm⟩)
theorem root_of (_G : Tp.Good l) (h1 : nroot l l.length = 1) (hp : ∀ c ∈ l, c.parent ≠ 0 → c.parent ∈ ids l) : Tp.Root l (rootS l) := by
  unfold nroot at h1
  rw [List.take_length] at h1
  obtain ⟨x, hx⟩ := List.length_eq_one_iff.1 h1
  have hm : x ∈ l.filter (fun c => c.parent == 0) := by rw [hx]; simp
  obtain ⟨hxl, hxp⟩ := List.mem_filter.1 hm
  have hone : ∀ c ∈ l, c.parent = 0 → c = x := fun c hc h0 => by
    have : c ∈ l.filter (fun c => c.parent == 0) := List.mem_filter.2 ⟨hc, by simpa using h0⟩
    rw [hx] at this; simpa using this
  have hr : rootS l = x.id := by
    unfold rootS
    cases hf : l.find? (fun c => c.parent == 0) with
    | none => rw [List.find?_eq_none] at hf; exact absurd hxp (hf x hxl)
    | some d => rw [hone d (List.mem_of_find?_eq_some hf) (by have := List.find?_some hf; simpa using this)]
  rw [hr]
  exact ⟨⟨x, hxl, rfl, by simpa using hxp⟩, fun c hc h0 => by rw [hone c hc h0], hp⟩
theorem check_is (hne : l.length ≠ 0) (h64 : ¬ 64 < l.length) : checkS l = scan l l.length := by unfold checkS; rw [if_neg hne, if_neg h64]

set_option maxRecDepth 100000 in
set_option maxHeartbeats 8000000 in
theorem refcheck_c (A : Option Addr) (n c : Nat) (l : List Cls) (hs : ∀ x ∈ l, x.share < 18446744073709551616) (hlen : l.length ≤ 1000000) (w : World) (hI : Holds w.heap.size w (.slice A n c) l) :
    Calls Try.prog 69 #[.slice A n c] w (RetB (.int .i64 (chk l)) w) := by
  obtain ⟨rfl, hcs⟩ := holds_parts hI
  by_cases h0 : l.length = 0
  · have e : chk l = 8 := by unfold chk; rw [if_pos h0]
    rw [e]
    have h0z : ((l.length : Int) == 0) = true := by rw [beq_iff_eq]; omega
    clear e hcs hs h0
    go_enter Try.func69, Try.ntmps69
    go_wp2
    go_ret
    exact ⟨rfl, Below.refl _ _⟩
  by_cases h64 : 64 < l.length
  · have e : chk l = 3 := by unfold chk; rw [if_neg h0, if_pos h64]
    rw [e]
    have h0z : ((l.length : Int) == 0) = false := by rw [beq_eq_false_iff_ne]; omega
    have h64z : (64 : Int) < (l.length : Int) := by omega
    clear e hcs hs h0 h64
    go_enter Try.func69, Try.ntmps69
    go_wp2
    go_ret
    exact ⟨rfl, Below.refl _ _⟩
  have hck := Lib.hid (check_is h0 h64)
  have h0z : ((l.length : Int) == 0) = false := by rw [beq_eq_false_iff_ne]; omega
  have h64z : ¬ (64 : Int) < (l.length : Int) := by omega
  have h64n : l.length ≤ 64 := by omega
  obtain ⟨b, off, rfl, hb, hc⟩ := hcs (by omega)
  have HC := Lib.hid hc; have HI := Lib.hid hI; have HS := Lib.hid hs
  have HNE := Lib.hid h0
  clear hcs hs h0 h64 hc hI
  go_enter Try.func69, Try.ntmps69
  go_wp2_with fail
  go_loopg [3, 4] l.length (fun kx s3 s4 wr => ∃ k : Nat, s4 = .int .i64 k ∧ s3 = .int .i64 (nroot l k) ∧ k ≤ l.length ∧ l.length - k ≤ kx ∧ Hid (scan l k = 0) ∧ Hid (Below w.heap.size w wr))
  case atStart => exact ⟨0, rfl, rfl, by omega, by omega, Lib.hid rfl, Lib.hid (Below.refl _ _)⟩
  case round =>
    obtain ⟨k, rfl, rfl, hk, hkx, HSC, HW⟩ := hrel
    clear h0z h64z
    have hws := HW.out.size
    by_cases hlt : k < l.length
    · have hltz : (k : Int) < (l.length : Int) := by omega
      obtain ⟨x, hx⟩ : ∃ x, l[k]? = some x := ⟨_, List.getElem?_eq_getElem hlt⟩
      have hcw : ∀ (u : World), Below w.heap.size w u → ∀ (i : Nat) (v : Value), x.cells[i]? = some v → u.cell? ⟨b, off + k * 11 + i, none⟩ = some v := fun u hu i v hv => (hu.cell (p := ⟨b, off + k * 11 + i, none⟩) hb).trans (HC.out k x hx i v hv)
      have hcx := hcw wr HW.out
      have c0 : wr.cell? ⟨b, off + k * 11, none⟩ = some (.int .i64 x.id) := hcx 0 _ rfl
      have c1 := hcx 1 _ rfl; have c2 := hcx 2 _ rfl; have c3 := hcx 3 _ rfl; have c4 := hcx 4 _ rfl; have c5 := hcx 5 _ rfl; have c6 := hcx 6 _ rfl; have c7 := hcx 7 _ rfl; have c8 := hcx 8 _ rfl; have c9 := hcx 9 _ rfl; have c10 := hcx 10 _ rfl
      have HX := Lib.hid hx; have HCW := Lib.hid hcw
      have hrt := Lib.hid (fun u => refright_any x (HS.out x (List.mem_of_getElem? hx)) u)
      have hnr := nroot_le l k
      unfold Cls.agg at hrt
      clear hcx hx hcw
      by_cases hr : rightS x = 0
      · have hea := Lib.hid (errAt_is (l := l) HX.out hr)
        rw [hr] at hrt
        have hfl := Lib.hid (find_lt (l := l) HX.out)
        clear hr
        by_cases hf : findC (l.take k) x.id < 0
        · have HE : Hid (errAt l k = 0) := Lib.hid (by rw [hea.out, if_pos hf])
          have hfz : decide (findC l x.id < (k : Int)) = false := decide_eq_false (fun h => hfl.out.1 h hf)
          clear hf
          by_cases hp : x.parent = 0
          · have e1 : (x.parent == 0) = true := by rw [beq_iff_eq]; exact hp
            have HN := Lib.hid (nroot_in HX.out hp)
            clear hp
            generalize nroot l k = nr at *
            go_wp2_with (first
              | (go_at_call 40; refine (hrt.out _).mono ?_; rintro e w1 ⟨rfl, hb1⟩; have HB1 := Lib.hid hb1; have HW1 := Lib.hid (HW.out.trans (hb1.mono hws)); clear hb1; have d0 : w1.cell? ⟨b, off + k * 11, none⟩ = some (.int .i64 x.id) := HCW.out w1 HW1.out 0 _ rfl; have d1 : w1.cell? ⟨b, off + k * 11 + 1, none⟩ = some (.int .i64 x.parent) := HCW.out w1 HW1.out 1 _ rfl)
              | (go_at_call 51; refine (reffind_c _ _ _ _ l x.id (by omega) w1 (HI.out.below HW1.out)).mono ?_; rintro e w2 ⟨rfl, rfl⟩))
            go_roundg (l.length - (k + 1))
            case measure => omega
            case rel => exact ⟨k + 1, by go_num, by rw [HN.out]; go_num, by omega, by omega, Lib.hid (by rw [scan_succ HSC.out, HE.out]), HW1⟩
          · have e1 : (x.parent == 0) = false := by rw [beq_eq_false_iff_ne]; exact hp
            have HN := Lib.hid (nroot_out HX.out hp)
            clear hp
            go_wp2_with (first
              | (go_at_call 40; refine (hrt.out _).mono ?_; rintro e w1 ⟨rfl, hb1⟩; have HB1 := Lib.hid hb1; have HW1 := Lib.hid (HW.out.trans (hb1.mono hws)); clear hb1; have d0 : w1.cell? ⟨b, off + k * 11, none⟩ = some (.int .i64 x.id) := HCW.out w1 HW1.out 0 _ rfl; have d1 : w1.cell? ⟨b, off + k * 11 + 1, none⟩ = some (.int .i64 x.parent) := HCW.out w1 HW1.out 1 _ rfl)
              | (go_at_call 51; refine (reffind_c _ _ _ _ l x.id (by omega) w1 (HI.out.below HW1.out)).mono ?_; rintro e w2 ⟨rfl, rfl⟩))
            go_roundg (l.length - (k + 1))
            case measure => omega
            case rel => exact ⟨k + 1, by go_num, by rw [HN.out], by omega, by omega, Lib.hid (by rw [scan_succ HSC.out, HE.out]), HW1⟩
        · have HE : Hid (errAt l k = 9) := Lib.hid (by rw [hea.out, if_neg hf])
          have hfz : decide (findC l x.id < (k : Int)) = true := decide_eq_true (hfl.out.2 hf)
          clear hf
          go_wp2_with (first
            | (go_at_call 40; refine (hrt.out _).mono ?_; rintro e w1 ⟨rfl, hb1⟩; have HB1 := Lib.hid hb1; have HW1 := Lib.hid (HW.out.trans (hb1.mono hws)); clear hb1; have d0 : w1.cell? ⟨b, off + k * 11, none⟩ = some (.int .i64 x.id) := HCW.out w1 HW1.out 0 _ rfl; have d1 : w1.cell? ⟨b, off + k * 11 + 1, none⟩ = some (.int .i64 x.parent) := HCW.out w1 HW1.out 1 _ rfl)
            | (go_at_call 51; refine (reffind_c _ _ _ _ l x.id (by omega) w1 (HI.out.below HW1.out)).mono ?_; rintro e w2 ⟨rfl, rfl⟩))
          go_ret
          have hsc : scan l l.length = 9 := by rw [scan_hit HSC.out (by rw [HE.out]; decide) l.length hlt, HE.out]
          exact ⟨by rw [chk_scan (by rw [hck.out, hsc]; decide), hck.out, hsc]; rfl, HW1.out⟩
      · have hea := Lib.hid (errAt_bad (l := l) HX.out hr)
        have hrn : (rightS x != 0) = true := by rw [bne_iff_ne]; exact hr
        have hsc : Hid (scan l l.length = rightS x) := Lib.hid (by rw [scan_hit HSC.out (by rw [hea.out]; exact hr) l.length hlt, hea.out])
        have HR := Lib.hid hr
        clear hr
        generalize hrx : rightS x = rx at *
        clear hrx
        go_wp2_with (go_at_call 40; refine (hrt.out _).mono ?_; rintro e w1 ⟨rfl, hb1⟩; have HB1 := Lib.hid hb1; clear hb1)
        go_ret
        exact ⟨by rw [chk_scan (by rw [hck.out, hsc.out]; exact HR.out), hck.out, hsc.out]; rfl, HW.out.trans (HB1.out.mono hws)⟩
    · have hltz : ¬ (k : Int) < (l.length : Int) := by omega
      obtain rfl : k = l.length := by omega
      have hsc := HSC.out
      have G := good_of hsc
      have HG := Lib.hid G
      have hc0 : Hid (checkS l = 0) := Lib.hid (by rw [hck.out]; exact hsc)
      clear hsc G
      by_cases hn1 : nroot l l.length = 1
      · have e1 : (((nroot l l.length : Nat) : Int) != 1) = false := by rw [bne_eq_false_iff_eq]; omega
        have HN1 := Lib.hid hn1
        clear hn1
        go_wp2_with fail
        go_loopg [6] l.length (fun kx s6 wq => ∃ k : Nat, s6 = .int .i64 k ∧ k ≤ l.length ∧ l.length - k ≤ kx ∧ wq = wr ∧ Hid (∀ c ∈ l.take k, c.parent ≠ 0 → c.parent ∈ ids l))
        case atStart => exact ⟨0, rfl, by omega, by omega, rfl, Lib.hid (by simp)⟩
        case round =>
          obtain ⟨k, rfl, hk2, hkx2, rfl, HP⟩ := hrel
          clear e1
          by_cases hlt2 : k < l.length
          · have hltz2 : (k : Int) < (l.length : Int) := by omega
            obtain ⟨x, hx⟩ : ∃ x, l[k]? = some x := ⟨_, List.getElem?_eq_getElem hlt2⟩
            have c1 : wr.cell? ⟨b, off + k * 11 + 1, none⟩ = some (.int .i64 x.parent) := (HW.out.cell (p := ⟨b, off + k * 11 + 1, none⟩) hb).trans (HC.out k x hx 1 _ rfl)
            have HX := Lib.hid hx
            clear hx
            by_cases hp : x.parent = 0
            · have e2 : (x.parent != 0) = false := by rw [bne_eq_false_iff_eq]; exact hp
              have HPP := Lib.hid hp
              clear hp
              go_wp2_with fail
              go_roundg (l.length - (k + 1))
              case measure => omega
              case rel => exact ⟨k + 1, by go_num, by omega, by omega, rfl, Lib.hid (fun c hc h0 => by rcases (take_cls HX.out).1 hc with h | rfl; exact HP.out c h h0; exact absurd HPP.out h0)⟩
            · have e2 : (x.parent != 0) = true := by rw [bne_iff_ne]; exact hp
              have HPP := Lib.hid hp
              clear hp
              by_cases hf : findC l x.parent < 0
              · have hfz : decide (findC l x.parent < 0) = true := decide_eq_true hf
                have HCK := Lib.hid (chk_par hc0.out (bad_parent (List.mem_of_getElem? HX.out) HPP.out (find_neg.1 hf) (rootS l)))
                clear hf
                go_wp2_with (go_at_call 51; refine (reffind_c _ _ _ _ l x.parent (by omega) wr (HI.out.below HW.out)).mono ?_; rintro e w2 ⟨rfl, rfl⟩)
                go_ret
                exact ⟨by rw [HCK.out]; rfl, HW.out⟩
              · have hfz : decide (findC l x.parent < 0) = false := decide_eq_false hf
                have HIN := Lib.hid (Classical.not_not.1 (fun h => hf (find_neg.2 h)))
                clear hf
                go_wp2_with (go_at_call 51; refine (reffind_c _ _ _ _ l x.parent (by omega) wr (HI.out.below HW.out)).mono ?_; rintro e w2 ⟨rfl, rfl⟩)
                go_roundg (l.length - (k + 1))
                case measure => omega
                case rel => exact ⟨k + 1, by go_num, by omega, by omega, rfl, Lib.hid (fun c hc h0 => by rcases (take_cls HX.out).1 hc with h | rfl; exact HP.out c h h0; exact HIN.out)⟩
          · have hltz2 : ¬ (k : Int) < (l.length : Int) := by omega
            obtain rfl : k = l.length := by omega
            have HR := Lib.hid (root_of HG.out HN1.out (by have := HP.out; rwa [List.take_length] at this))
            have hring := Lib.hid (ring_iff HG.out HR.out h64n)
            go_wp2_with fail
            go_loopg [7] l.length (fun kx s7 wq => ∃ k : Nat, s7 = .int .i64 k ∧ k ≤ l.length ∧ l.length - k ≤ kx ∧ wq = wr ∧ Hid (∀ c ∈ l.take k, rise l 65 c.id = 0))
            case atStart => exact ⟨0, rfl, by omega, by omega, rfl, Lib.hid (by simp)⟩
            case round =>
              obtain ⟨k, rfl, hk3, hkx3, rfl, HQ⟩ := hrel
              by_cases hlt3 : k < l.length
              · have hltz3 : (k : Int) < (l.length : Int) := by omega
                obtain ⟨x, hx⟩ : ∃ x, l[k]? = some x := ⟨_, List.getElem?_eq_getElem hlt3⟩
                have c0 : wr.cell? ⟨b, off + k * 11, none⟩ = some (.int .i64 x.id) := (HW.out.cell (p := ⟨b, off + k * 11, none⟩) hb).trans (HC.out k x hx 0 _ rfl)
                have HX := Lib.hid hx
                have hrise := Lib.hid (refrise_c (some ⟨b, off, none⟩) l.length c w.heap.size 65 l (by omega) (by omega) x.id wr (HI.out.below HW.out))
                clear hx
                by_cases hz : rise l 65 x.id = 0
                · have HZ := Lib.hid hz
                  rw [hz] at hrise
                  clear hz
                  go_wp2_with (go_at_call 138; refine (hrise.out).mono ?_; rintro e w2 ⟨rfl, rfl⟩)
                  go_roundg (l.length - (k + 1))
                  case measure => omega
                  case rel => exact ⟨k + 1, by go_num, by omega, by omega, rfl, Lib.hid (fun c hc => by rcases (take_cls HX.out).1 hc with h | rfl; exact HQ.out c h; exact HZ.out)⟩
                · have e3 : (rise l 65 x.id != 0) = true := by rw [bne_iff_ne]; exact hz
                  have HCK := Lib.hid (chk_ring hc0.out HR.out (fun hall => hz (hring.out.2 hall x.id (List.mem_map.2 ⟨x, List.mem_of_getElem? HX.out, rfl⟩))))
                  clear hz
                  generalize rise l 65 x.id = rv at *
                  go_wp2_with (go_at_call 138; refine (hrise.out).mono ?_; rintro e w2 ⟨rfl, rfl⟩)
                  go_ret
                  exact ⟨by rw [HCK.out]; rfl, HW.out⟩
              · have hltz3 : ¬ (k : Int) < (l.length : Int) := by omega
                obtain rfl : k = l.length := by omega
                have hall := hring.out.1 (fun i hi => by
                  obtain ⟨c, hc, rfl⟩ := List.mem_map.1 hi
                  exact HQ.out c (by rw [List.take_length]; exact hc))
                have HALL := Lib.hid hall
                have hlv := Lib.hid (reflevel_c (some ⟨b, off, none⟩) c l h64n 64 (rootS l) (Nat.le_refl _) (root_deep64 HG.out HR.out h64n) (root_mem HR.out) wr ((HI.out.below HW.out).up hws))
                have hrt := Lib.hid (refroot_c (some ⟨b, off, none⟩) l.length c w.heap.size l hlen wr (HI.out.below HW.out))
                obtain ⟨lv, hlvv⟩ : ∃ lv, lv = level l (rootS l) := ⟨_, rfl⟩
                rw [← hlvv] at hlv
                have HLV := Lib.hid hlvv
                unfold RetB at hlv
                clear hall hlvv
                by_cases h8 : 8 < lv
                · have HCK := Lib.hid (chk_deep hc0.out HR.out HALL.out (by rw [← HLV.out]; exact h8))
                  go_wp2_with (first
                    | (go_at_call 72; refine (hrt.out).mono ?_; rintro e w2 ⟨rfl, rfl⟩)
                    | (go_at_call 82; refine (hlv.out).mono ?_; rintro e w2 ⟨rfl, hb2⟩; have HB2 := Lib.hid hb2; clear hb2))
                  go_ret
                  exact ⟨by rw [HCK.out]; rfl, HW.out.trans (HB2.out.mono hws)⟩
                · have HCK := Lib.hid (chk_fine hc0.out HR.out HALL.out (by rw [← HLV.out]; exact h8))
                  go_wp2_with (first
                    | (go_at_call 72; refine (hrt.out).mono ?_; rintro e w2 ⟨rfl, rfl⟩)
                    | (go_at_call 82; refine (hlv.out).mono ?_; rintro e w2 ⟨rfl, hb2⟩; have HB2 := Lib.hid hb2; clear hb2))
                  go_ret
                  exact ⟨by rw [HCK.out]; rfl, HW.out.trans (HB2.out.mono hws)⟩
      · have e1 : (((nroot l l.length : Nat) : Int) != 1) = true := by rw [bne_iff_ne]; omega
        have HCK := Lib.hid (chk_par hc0.out (fun R => hn1 (nroot_one HG.out R)))
        clear hn1
        go_wp2_with fail
        go_ret
        exact ⟨by rw [HCK.out]; rfl, HW.out⟩
end Go.Proofs.Ytdoemgccmjddcaa.Tr
