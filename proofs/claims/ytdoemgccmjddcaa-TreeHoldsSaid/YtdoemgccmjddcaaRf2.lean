/- The reference's IDs, Leaves, Root, Rise, Level. -/
import Derived.Test.YtdoemgccmjddcaaRf1
namespace Go.Proofs.Ytdoemgccmjddcaa.Tr
open Go.RowKit Go.Maps Go.Proofs.Ytdoemgccmjddcaa.Wd Go.Proofs.Ytdoemgccmjddcaa.Li Go.Proofs.Ytdoemgccmjddcaa.Mp Go.Proofs.Ytdoemgccmjddcaa.Tp Go.Proofs.Ytdoemgccmjddcaa.Cl Go.Proofs.Ytdoemgccmjddcaa.So Go.Proofs.Ytdoemgccmjddcaa.Sw
attribute [local go_sem] run_store_float

theorem ids_take {l : List Cls} {k : Nat} {x : Cls} (h : (sortC l)[k]? = some x) : ids ((sortC l).take (k + 1)) = ids ((sortC l).take k) ++ [x.id] := by unfold ids; rw [List.take_add_one, h, List.map_append]; rfl
theorem ids_take_len (l : List Cls) (k : Nat) : (ids ((sortC l).take k)).length ≤ k := by unfold ids; rw [List.length_map]; exact List.length_take_le _ _
set_option maxRecDepth 20000 in
set_option maxHeartbeats 2000000 in
theorem refids_c (A : Option Addr) (len cap : Nat) (l : List Cls) (hlen : l.length ≤ 1000000) (w : World) (hI : Holds w.heap.size w (.slice A len cap) l) :
    Calls Try.prog 74 #[.slice A len cap] w (ListOk (ids (sortC l)) w) := by
  have hso := Lib.hid (refsort_c A len cap l (by omega) w hI)
  have hSL := Lib.hid (sortC_len l)
  clear hI
  go_enter Try.func74, Try.ntmps74
  go_wp2_with (go_at_call 49; refine (hso.out).mono ?_; rintro e w1 ⟨A1, c1, rfl, hcs, hb1⟩; have HCS := Lib.hid hcs; have HB1 := Lib.hid hb1; clear hcs hb1)
  have hws := HB1.out.size
  go_loopg [3, 5] l.length (fun kx s3 s5 wr => ∃ (k : Nat) (B9 : Option Addr) (c9 : Nat), s5 = .int .i64 k ∧ s3 = .slice B9 (ids ((sortC l).take k)).length c9 ∧ k ≤ l.length ∧ l.length - k ≤ kx ∧ Hid (wr.ownsRow w1.heap.size 3 1 s3 (ids ((sortC l).take k)).length (St.I (ids ((sortC l).take k)))) ∧ Hid (Below w1.heap.size w1 wr))
  case atStart => exact ⟨0, none, 0, rfl, rfl, by omega, by omega, Lib.hid (World.ownsRow_nil ..), Lib.hid (Below.refl _ _)⟩
  case round =>
    obtain ⟨k, B9, c9, rfl, rfl, hk, hkx, HO, HW⟩ := hrel
    have hwz := HW.out.size
    by_cases hlt : k < l.length
    · have hltz : (k : Int) < (l.length : Int) := by omega
      obtain ⟨b, off, rfl, hb, hc⟩ := HCS.out (by omega)
      obtain ⟨x, hx⟩ : ∃ x, (sortC l)[k]? = some x := ⟨_, List.getElem?_eq_getElem (by rw [hSL.out]; exact hlt)⟩
      have c0 : wr.cell? ⟨b, off + k * 11, none⟩ = some (.int .i64 x.id) := (HW.out.cell (p := ⟨b, off + k * 11, none⟩) hb).trans (hc k x hx 0 _ rfl)
      have hol := ids_take_len l k
      have HT := Lib.hid (ids_take hx)
      clear hc hx
      generalize ids ((sortC l).take k) = os at *
      go_wp2_with ((at_builtin; go_must (refine wpList_push_at (by rfl) _ _ 27 (by rfl) Try.underlying27 w1.heap.size x.id wr _ os (by rfl) HO.out (by rfl) (by omega) hwz ?_)); intro g cap7 w7 hown7 hg7 hl7; have HO7 := Lib.hid hown7; have HB7 := Lib.hid (push_below HW.out (Nat.le_refl _) hwz HO.out hg7); clear hown7 hg7 hl7)
      go_roundg (l.length - (k + 1))
      case measure => omega
      case rel => exact ⟨k + 1, some ⟨g, 0, none⟩, cap7, by go_num, by rw [HT.out]; simp, by omega, by omega, Lib.hid (by rw [HT.out]; have := HO7.out; simpa [Sv.val] using this), HB7⟩
    · have hltz : ¬ (k : Int) < (l.length : Int) := by omega
      obtain rfl : k = l.length := by omega
      have HT : Hid (ids ((sortC l).take l.length) = ids (sortC l)) := Lib.hid (by rw [← hSL.out, List.take_length])
      rw [HT.out] at HO ⊢
      go_wp2
      go_ret
      exact ⟨B9, c9, rfl, Sl.of_own HO.out, HB1.out.trans (HW.out.mono hws)⟩

/-- the leaves among the first k -/
def leavesP (l : List Cls) (k : Nat) : List Int := (ids ((sortC l).take k)).filter (fun i => decide ((kids l i).length = 0))
def leavesS (l : List Cls) : List Int := (ids (sortC l)).filter (fun i => decide ((kids l i).length = 0))
theorem leavesP_all (l : List Cls) : leavesP l (sortC l).length = leavesS l := by unfold leavesP leavesS; rw [List.take_length]
theorem leavesP_in {l : List Cls} {k : Nat} {x : Cls} (h : (sortC l)[k]? = some x) (h0 : (kids l x.id).length = 0) : leavesP l (k + 1) = leavesP l k ++ [x.id] := by unfold leavesP; rw [ids_take h, List.filter_append]; simp [List.length_eq_zero_iff.1 h0]
theorem leavesP_out {l : List Cls} {k : Nat} {x : Cls} (h : (sortC l)[k]? = some x) (h0 : (kids l x.id).length ≠ 0) : leavesP l (k + 1) = leavesP l k := by
  unfold leavesP; rw [ids_take h, List.filter_append]
  have : [x.id].filter (fun i => decide ((kids l i).length = 0)) = [] := by rw [List.filter_cons_of_neg (by simpa using h0)]; rfl
  rw [this, List.append_nil]
theorem leavesP_len (l : List Cls) (k : Nat) : (leavesP l k).length ≤ k := Nat.le_trans (List.length_filter_le _ _) (ids_take_len l k)
theorem holds_next {w w' : World} {A : Option Addr} {n c : Nat} {l : List Cls} (h : Holds w.heap.size w (.slice A n c) l) (hb : Below w.heap.size w w') : Holds w'.heap.size w' (.slice A n c) l := (h.below hb).up hb.size
set_option maxRecDepth 20000 in
set_option maxHeartbeats 2000000 in
theorem refleaves_c (A : Option Addr) (cap : Nat) (l : List Cls) (hlen : l.length ≤ 1000000) (w : World) (hI : Holds w.heap.size w (.slice A l.length cap) l) :
    Calls Try.prog 76 #[.slice A l.length cap] w (ListOk (leavesS l) w) := by
  have hso := Lib.hid (refsort_c A l.length cap l (by omega) w hI)
  have hSL := Lib.hid (sortC_len l)
  have HI := Lib.hid hI
  clear hI
  go_enter Try.func76, Try.ntmps76
  go_wp2_with (go_at_call 49; refine (hso.out).mono ?_; rintro e w1 ⟨A1, c1, rfl, hcs, hb1⟩; have HCS := Lib.hid hcs; have HB1 := Lib.hid hb1; clear hcs hb1)
  have hws := HB1.out.size
  go_loopg [3, 5] l.length (fun kx s3 s5 wr => ∃ (k : Nat) (B9 : Option Addr) (c9 : Nat), s5 = .int .i64 k ∧ s3 = .slice B9 (leavesP l k).length c9 ∧ k ≤ l.length ∧ l.length - k ≤ kx ∧ Hid (wr.ownsRow w1.heap.size 3 1 s3 (leavesP l k).length (St.I (leavesP l k))) ∧ Hid (Below w1.heap.size w1 wr))
  case atStart => exact ⟨0, none, 0, rfl, rfl, by omega, by omega, Lib.hid (World.ownsRow_nil ..), Lib.hid (Below.refl _ _)⟩
  case round =>
    obtain ⟨k, B9, c9, rfl, rfl, hk, hkx, HO, HW⟩ := hrel
    have hwz := HW.out.size
    by_cases hlt : k < l.length
    · have hltz : (k : Int) < (l.length : Int) := by omega
      obtain ⟨b, off, rfl, hb, hc⟩ := HCS.out (by omega)
      obtain ⟨x, hx⟩ : ∃ x, (sortC l)[k]? = some x := ⟨_, List.getElem?_eq_getElem (by rw [hSL.out]; exact hlt)⟩
      have hcw : w1.cell? ⟨b, off + k * 11, none⟩ = some (.int .i64 x.id) := hc k x hx 0 _ rfl
      have c0 : wr.cell? ⟨b, off + k * 11, none⟩ = some (.int .i64 x.id) := (HW.out.cell (p := ⟨b, off + k * 11, none⟩) hb).trans hcw
      have HCW := Lib.hid hcw
      have hol := leavesP_len l k
      have HX := Lib.hid hx
      have hch := Lib.hid (refchildren_c A l.length cap l x.id hlen wr (holds_next HI.out (HB1.out.trans (HW.out.mono hws))))
      clear hc hx hcw
      by_cases h0 : (kids l x.id).length = 0
      · have e0 : (((kids l x.id).length : Int) == 0) = true := by rw [beq_iff_eq]; omega
        have HT := Lib.hid (leavesP_in HX.out h0)
        unfold ListOk at hch
        generalize hn : (kids l x.id).length = n at *
        generalize leavesP l k = os at *
        clear h0 hn
        go_upto_region 7 with (go_at_call 79; refine (hch.out).mono ?_; rintro e w2 ⟨A2, c2, rfl, hs2, hb2⟩; have HB2 := Lib.hid hb2; clear hs2 hb2)
        have c0' : w2.cell? ⟨b, off + k * 11, none⟩ = some (.int .i64 x.id) := (HB2.out.cell (p := ⟨b, off + k * 11, none⟩) (by omega : b < wr.heap.size)).trans c0
        have hw2 := HB2.out.size
        have HO2 := Lib.hid (own_same (w' := w2) HO.out (fun q hq => HB2.out.block q (HO.out.lt q hq).2))
        have HW2 := Lib.hid (HW.out.trans (HB2.out.mono hwz))
        clear c0
        go_wp2_with ((at_builtin; go_must (refine wpList_push_at (by rfl) _ _ 27 (by rfl) Try.underlying27 w1.heap.size x.id w2 _ os (by rfl) HO2.out (by rfl) (by omega) (by omega) ?_)); intro g cap7 w7 hown7 hg7 hl7; have HO7 := Lib.hid hown7; have HB7 := Lib.hid (push_below HW2.out (Nat.le_refl _) (by omega) HO2.out hg7); clear hown7 hg7 hl7)
        go_roundg (l.length - (k + 1))
        case measure => omega
        case rel => exact ⟨k + 1, some ⟨g, 0, none⟩, cap7, by go_num, by rw [HT.out]; simp, by omega, by omega, Lib.hid (by rw [HT.out]; have := HO7.out; simpa [Sv.val] using this), HB7⟩
      · have e0 : (((kids l x.id).length : Int) == 0) = false := by rw [beq_eq_false_iff_ne]; omega
        have HT := Lib.hid (leavesP_out HX.out h0)
        unfold ListOk at hch
        generalize hn : (kids l x.id).length = n at *
        clear h0 hn
        go_wp2_with (go_at_call 79; refine (hch.out).mono ?_; rintro e w2 ⟨A2, c2, rfl, hs2, hb2⟩; have HB2 := Lib.hid hb2; clear hs2 hb2)
        go_roundg (l.length - (k + 1))
        case measure => omega
        case rel => exact ⟨k + 1, B9, c9, by go_num, by rw [HT.out], by omega, by omega, Lib.hid (by rw [HT.out]; exact own_same HO.out (fun q hq => HB2.out.block q (HO.out.lt q hq).2)), Lib.hid (HW.out.trans (HB2.out.mono hwz))⟩
    · have hltz : ¬ (k : Int) < (l.length : Int) := by omega
      obtain rfl : k = l.length := by omega
      have HT : Hid (leavesP l l.length = leavesS l) := Lib.hid (by rw [← hSL.out]; exact leavesP_all l)
      rw [HT.out] at HO ⊢
      go_wp2
      go_ret
      exact ⟨B9, c9, rfl, Sl.of_own HO.out, HB1.out.trans (HW.out.mono hws)⟩

theorem root_hit {l : List Cls} {k : Nat} {x : Cls} (hx : l[k]? = some x) (hp : x.parent = 0) (hn : ∀ c ∈ l.take k, c.parent ≠ 0) : rootS l = x.id := by
  have : l.find? (fun c => c.parent == 0) = some x := by
    rw [List.find?_eq_some_iff_getElem]
    obtain ⟨hk, e⟩ := List.getElem?_eq_some_iff.1 hx
    refine ⟨by simpa using hp, k, hk, e, fun j hj => ?_⟩
    have := hn l[j] (List.mem_iff_getElem?.2 ⟨j, by rw [List.getElem?_take_of_lt hj]; exact List.getElem?_eq_getElem (by omega)⟩)
    simpa using this
  unfold rootS; rw [this]
theorem root_miss {l : List Cls} (hn : ∀ c ∈ l, c.parent ≠ 0) : rootS l = 0 := by
  have : l.find? (fun c => c.parent == 0) = none := by rw [List.find?_eq_none]; intro c hc; simpa using hn c hc
  unfold rootS; rw [this]
set_option maxRecDepth 20000 in
set_option maxHeartbeats 1000000 in
theorem refroot_c (A : Option Addr) (len cap N : Nat) (l : List Cls) (hlen : l.length ≤ 1000000) (w : World) (hI : Holds N w (.slice A len cap) l) :
    Calls Try.prog 72 #[.slice A len cap] w fun e w' => e = .returned (.int .i64 (rootS l)) ∧ w = w' := by
  obtain ⟨rfl, hcs⟩ := holds_parts hI
  have HCS := Lib.hid hcs
  clear hcs hI
  go_enter Try.func72, Try.ntmps72
  go_wp2_with fail
  go_loopg [3] l.length (fun kx s3 wr => ∃ k : Nat, s3 = .int .i64 k ∧ k ≤ l.length ∧ l.length - k ≤ kx ∧ wr = w ∧ Hid (∀ c ∈ l.take k, c.parent ≠ 0))
  case atStart => exact ⟨0, rfl, by omega, by omega, rfl, Lib.hid (by simp)⟩
  case round =>
    obtain ⟨k, rfl, hk, hkx, rfl, HN⟩ := hrel
    by_cases hlt : k < l.length
    · have hltz : (k : Int) < (l.length : Int) := by omega
      obtain ⟨b, off, rfl, hb, hc⟩ := HCS.out (by omega)
      obtain ⟨x, hx⟩ : ∃ x, l[k]? = some x := ⟨_, List.getElem?_eq_getElem hlt⟩
      have c0 : wr.cell? ⟨b, off + k * 11, none⟩ = some (.int .i64 x.id) := hc k x hx 0 _ rfl
      have c1' := hc k x hx 1 _ rfl
      have HX := Lib.hid hx
      clear hc hx
      by_cases hp : x.parent = 0
      · have e1 : (x.parent == 0) = true := by rw [beq_iff_eq]; exact hp
        have HR := Lib.hid (root_hit HX.out hp HN.out)
        clear hp
        go_wp2
        go_ret
        exact ⟨by rw [HR.out]; rfl, rfl⟩
      · have e1 : (x.parent == 0) = false := by rw [beq_eq_false_iff_ne]; exact hp
        have HP := Lib.hid hp
        clear hp
        go_wp2
        go_roundg (l.length - (k + 1))
        case measure => omega
        case rel => exact ⟨k + 1, by go_num, by omega, by omega, rfl, Lib.hid (fun c hc => by rcases (take_cls HX.out).1 hc with h | rfl; exact HN.out c h; exact HP.out)⟩
    · have hltz : ¬ (k : Int) < (l.length : Int) := by omega
      obtain rfl : k = l.length := by omega
      have HR : Hid (rootS l = 0) := Lib.hid (root_miss (by have := HN.out; rwa [List.take_length] at this))
      go_wp2
      go_ret
      exact ⟨by rw [HR.out]; rfl, rfl⟩
end Go.Proofs.Ytdoemgccmjddcaa.Tr
