/- The reference's Children, IDs; a tree's Leaves. -/
import Derived.Test.YtdoemgccmjddcaaTr8
import Derived.Test.YtdoemgccmjddcaaSsM
namespace Go.Proofs.Ytdoemgccmjddcaa.Tr
open Go.RowKit Go.Maps Go.Proofs.Ytdoemgccmjddcaa.Wd Go.Proofs.Ytdoemgccmjddcaa.Li Go.Proofs.Ytdoemgccmjddcaa.Mp Go.Proofs.Ytdoemgccmjddcaa.Tp Go.Proofs.Ytdoemgccmjddcaa.Cl Go.Proofs.Ytdoemgccmjddcaa.So Go.Proofs.Ytdoemgccmjddcaa.Sw
attribute [local go_sem] run_store_float

theorem cls_len (x : Cls) : x.cells.length = 11 := rfl
/-- what the reference's Sorted gives, to be read -/
def SortOk (l : List Cls) (w : World) (e : Ending) (w' : World) : Prop := ∃ A c, e = .returned (.slice A l.length c) ∧ (0 < l.length → ∃ b off, A = some ⟨b, off, none⟩ ∧ b < w'.heap.size ∧ ∀ (j : Nat) (x : Cls), (sortC l)[j]? = some x → ∀ (i : Nat) (v : Value), x.cells[i]? = some v → w'.cell? ⟨b, off + j * 11 + i, none⟩ = some v) ∧ Below w.heap.size w w'
theorem refsort_c (A : Option Addr) (len cap : Nat) (l : List Cls) (hlen : l.length ≤ 1048576) (w : World) (hI : Holds w.heap.size w (.slice A len cap) l) :
    Calls Try.prog 49 #[.slice A len cap] w (SortOk l w) := by
  refine (refsorted_c A len cap l hlen w hI).mono ?_
  rintro e w' ⟨v, rfl, hown, hb⟩
  rw [← sortC_len] at hown
  have hl := lies_own (z := 11) (cells := Cls.cells) cls_len (by decide) hown
  obtain ⟨a, c, rfl⟩ := hl.form
  obtain ⟨_, hp⟩ := hl.parts
  rw [sortC_len] at hp ⊢
  exact ⟨a, c, rfl, hp, hb⟩
theorem push_below {B base : Nat} {w0 wr w7 : World} {o : Obj} {v : Value} {n : Nat} {xs : List Value} {e : TypeId} (h : Below B w0 wr) (hB : B ≤ base) (hw : B ≤ wr.heap.size) (hown : wr.ownsRow base e 1 v n xs) (hg : (wr.alloc o).grownBy w7 v.ownBlock) : Below B w0 w7 :=
  (h.alloc hw _).grown hg (by simp; omega) (fun q hq => Nat.le_trans hB (hown.lt q hq).1)

set_option maxRecDepth 20000 in
set_option maxHeartbeats 2000000 in
theorem refchildren_c (A : Option Addr) (len cap : Nat) (l : List Cls) (id : Int) (hlen : l.length ≤ 1000000) (w : World) (hI : Holds w.heap.size w (.slice A len cap) l) :
    Calls Try.prog 79 #[.slice A len cap, .int .i64 id] w (ListOk (kids l id) w) := by
  have hso := Lib.hid (refsort_c A len cap l (by omega) w hI)
  have hSL := Lib.hid (sortC_len l)
  clear hI
  go_enter Try.func79, Try.ntmps79
  go_wp2_with (go_at_call 49; refine (hso.out).mono ?_; rintro e w1 ⟨A1, c1, rfl, hcs, hb1⟩; have HCS := Lib.hid hcs; have HB1 := Lib.hid hb1; clear hcs hb1)
  have hws := HB1.out.size
  go_loopg [5, 7] l.length (fun kx s5 s7 wr => ∃ (k : Nat) (B9 : Option Addr) (c9 : Nat), s7 = .int .i64 k ∧ s5 = .slice B9 (kidsP l k id).length c9 ∧ k ≤ l.length ∧ l.length - k ≤ kx ∧ Hid (wr.ownsRow w1.heap.size 3 1 s5 (kidsP l k id).length (St.I (kidsP l k id))) ∧ Hid (Below w1.heap.size w1 wr))
  case atStart => exact ⟨0, none, 0, rfl, rfl, by omega, by omega, Lib.hid (World.ownsRow_nil ..), Lib.hid (Below.refl _ _)⟩
  case round =>
    obtain ⟨k, B9, c9, rfl, rfl, hk, hkx, HO, HW⟩ := hrel
    have hwz := HW.out.size
    by_cases hlt : k < l.length
    · have hltz : (k : Int) < (l.length : Int) := by omega
      obtain ⟨b, off, rfl, hb, hc⟩ := HCS.out (by omega)
      obtain ⟨x, hx⟩ : ∃ x, (sortC l)[k]? = some x := ⟨_, List.getElem?_eq_getElem (by rw [hSL.out]; exact hlt)⟩
      have hcx : ∀ (i : Nat) (v : Value), x.cells[i]? = some v → wr.cell? ⟨b, off + k * 11 + i, none⟩ = some v := fun i v hv => (HW.out.cell (p := ⟨b, off + k * 11 + i, none⟩) hb).trans (hc k x hx i v hv)
      have c0 : wr.cell? ⟨b, off + k * 11, none⟩ = some (.int .i64 x.id) := hcx 0 _ rfl
      have c1' := hcx 1 _ rfl
      have hol := kidsP_len (l := l) k id
      have HX := Lib.hid hx
      clear hcx hc hx
      by_cases hp : x.parent = id
      · have e1 : (x.parent == id) = true := by rw [beq_iff_eq]; exact hp
        by_cases h0 : id = 0
        · have e0 : (id != 0) = false := by rw [bne_eq_false_iff_eq]; exact h0
          have HT := Lib.hid (kidsP_out (l := l) HX.out (id := id) (.inr (hp.trans h0)))
          clear hp h0
          go_wp2_with fail
          go_roundg (l.length - (k + 1))
          case measure => omega
          case rel => exact ⟨k + 1, B9, c9, by go_num, by rw [HT.out], by omega, by omega, Lib.hid (by rw [HT.out]; exact HO.out), HW⟩
        · have e0 : (id != 0) = true := by rw [bne_iff_ne]; exact h0
          have HT : Hid (kidsP l (k + 1) id = kidsP l k id ++ [x.id]) := Lib.hid (by have := kidsP_in (l := l) HX.out (by rw [hp]; exact h0); rwa [hp] at this)
          clear hp h0
          generalize kidsP l k id = os at *
          go_wp2_with ((at_builtin; go_must (refine wpList_push_at (by rfl) _ _ 27 (by rfl) Try.underlying27 w1.heap.size x.id wr _ os (by rfl) HO.out (by rfl) (by omega) hwz ?_)); intro g cap7 w7 hown7 hg7 hl7; have HO7 := Lib.hid hown7; have HB7 := Lib.hid (push_below HW.out (Nat.le_refl _) hwz HO.out hg7); clear hown7 hg7 hl7)
          go_roundg (l.length - (k + 1))
          case measure => omega
          case rel => exact ⟨k + 1, some ⟨g, 0, none⟩, cap7, by go_num, by rw [HT.out]; simp, by omega, by omega, Lib.hid (by rw [HT.out]; have := HO7.out; simpa [Sv.val] using this), HB7⟩
      · have e1 : (x.parent == id) = false := by rw [beq_eq_false_iff_ne]; exact hp
        have HT := Lib.hid (kidsP_out (l := l) HX.out (id := id) (.inl (fun e => hp e.symm)))
        clear hp
        go_wp2_with fail
        go_roundg (l.length - (k + 1))
        case measure => omega
        case rel => exact ⟨k + 1, B9, c9, by go_num, by rw [HT.out], by omega, by omega, Lib.hid (by rw [HT.out]; exact HO.out), HW⟩
    · have hltz : ¬ (k : Int) < (l.length : Int) := by omega
      obtain rfl : k = l.length := by omega
      have HT : Hid (kidsP l l.length id = kids l id) := Lib.hid (by rw [← hSL.out]; exact kidsP_all id)
      rw [HT.out] at HO ⊢
      go_wp2
      go_ret
      exact ⟨B9, c9, rfl, Sl.of_own HO.out, HB1.out.trans (HW.out.mono hws)⟩
end Go.Proofs.Ytdoemgccmjddcaa.Tr
