/- Few, Own, and the document's came. -/
import Derived.Test.YtdoemgccmjddcaaSr1
import Derived.BigQuiet
import Derived.Deep.DeepCutAuto
import Derived.Deep.CutBlock
import Derived.Handy
namespace Go.Proofs.Ytdoemgccmjddcaa.Sr
open Go.RowKit Wd Li

theorem en_info : (Try.prog.info? 133).map (fun i => (i.zero, i.size, i.bytes)) = some (some (.agg #[.int .i64 0, .string { data := #[] }, .int .i64 0, .int .i64 0, .int .i64 0, .int .i64 0, .int .i64 0, .int .i64 0, .int .i64 0, .int .i64 0, .string { data := #[] }]), 11, 104) := by kernel_rfl

def En.low (x : En) : Bool := decide (x.raw.size ≤ 2100) && decide (x.reply.size ≤ 200)
def fewB (l : List En) : Bool := decide (l.length ≤ 60) && l.all En.low
theorem few_long {l : List En} (h : 60 < l.length) : fewB l = false := by unfold fewB; rw [decide_eq_false (by omega)]; rfl
theorem few_at {l : List En} {k : Nat} {x : En} (hx : l[k]? = some x) (h : x.low = false) : fewB l = false := by
  unfold fewB
  rw [Bool.and_eq_false_iff]
  right
  rw [List.all_eq_false]
  exact ⟨x, List.mem_of_getElem? hx, by rw [h]; decide⟩
theorem few_all {l : List En} (h : ¬ 60 < l.length) (ha : ∀ (j : Nat) (x : En), l[j]? = some x → x.low = true) : fewB l = true := by
  unfold fewB
  rw [decide_eq_true (by omega), Bool.true_and, List.all_eq_true]
  intro x hx
  obtain ⟨j, hj⟩ := List.getElem?_of_mem hx
  exact ha j x hj
theorem few_is {l : List En} (h : fewB l = true) : l.length ≤ 60 ∧ ∀ (j : Nat) (x : En), l[j]? = some x → x.raw.size ≤ 2100 := by
  unfold fewB at h
  rw [Bool.and_eq_true, decide_eq_true_eq, List.all_eq_true] at h
  refine ⟨h.1, fun j x hx => ?_⟩
  have := h.2 x (List.mem_of_getElem? hx)
  unfold En.low at this
  rw [Bool.and_eq_true, decide_eq_true_eq] at this
  exact this.1
def FewOk (l : List En) (w : World) (e : Ending) (w' : World) : Prop := e = .returned (.bool (fewB l)) ∧ Below w.heap.size w w'
set_option maxRecDepth 20000 in
set_option maxHeartbeats 2000000 in
theorem few_c (A : Option Addr) (n c : Nat) (l : List En) (w : World) (hI : Ls w.heap.size w (.slice A n c) l) :
    Calls Try.prog 29 #[.slice A n c, .int .i64 60] w (FewOk l w) := by
  obtain ⟨rfl, hcs⟩ := hI.parts
  have HCS := Lib.hid hcs
  clear hcs hI
  go_enter Try.func29, Try.ntmps29
  by_cases h60 : 60 < l.length
  · have hz : (60 : Int) < (l.length : Int) := by omega
    go_wp2
    go_ret
    exact ⟨by rw [few_long h60]; rfl, Below.refl _ w⟩
  · have hz : ¬ (60 : Int) < (l.length : Int) := by omega
    go_wp2
    go_loopg [13] l.length (fun kx s13 wr => ∃ k : Nat, s13 = .int .i64 k ∧ k ≤ l.length ∧ l.length - k ≤ kx ∧ Hid (Below w.heap.size w wr) ∧ Hid (∀ (j : Nat) (x : En), j < k → l[j]? = some x → x.low = true))
    case atStart => exact ⟨0, rfl, by omega, by omega, Lib.hid (Below.refl _ w), Lib.hid (fun j x h => absurd h (by omega))⟩
    case round =>
      obtain ⟨k, rfl, hk, hkx, HW, HN⟩ := hrel
      by_cases hlt : k < l.length
      · have hltz : (k : Int) < (l.length : Int) := by omega
        obtain ⟨x, hx⟩ : ∃ x, l[k]? = some x := ⟨l[k], List.getElem?_eq_getElem hlt⟩
        obtain ⟨b, off, rfl, hb, hc⟩ := HCS.out (by omega)
        have hcx : ∀ (i : Nat) (v : Value), x.cells[i]? = some v → wr.cell? ⟨b, off + k * 11 + i, none⟩ = some v := fun i v hv => (HW.out.cell (p := ⟨b, off + k * 11 + i, none⟩) hb).trans (hc k x hx i v hv)
        have c0 : wr.cell? ⟨b, off + k * 11, none⟩ = some (.int .i64 x.kind) := hcx 0 _ rfl
        have c1 := hcx 1 _ rfl; have c2 := hcx 2 _ rfl; have c3 := hcx 3 _ rfl; have c4 := hcx 4 _ rfl; have c5 := hcx 5 _ rfl
        have c6 := hcx 6 _ rfl; have c7 := hcx 7 _ rfl; have c8 := hcx 8 _ rfl; have c9 := hcx 9 _ rfl; have c10 := hcx 10 _ rfl
        have HX := Lib.hid hx
        clear hx hc hcx hb
        by_cases hr : 2100 < x.raw.size
        · have d1 : (2100 : Int) < (x.raw.size : Int) := by omega
          have d2 : decide ((2100 : Int) < (x.raw.size : Int)) = true := decide_eq_true d1
          go_wp2
          go_ret
          exact ⟨by rw [few_at HX.out (by unfold En.low; rw [decide_eq_false (by omega)]; rfl)]; rfl, HW.out.alloc HW.out.size _⟩
        · have d1 : ¬ (2100 : Int) < (x.raw.size : Int) := by omega
          have d2 : decide ((2100 : Int) < (x.raw.size : Int)) = false := decide_eq_false d1
          have HR := Lib.hid hr
          clear hr
          by_cases hq : 200 < x.reply.size
          · have d3 : (200 : Int) < (x.reply.size : Int) := by omega
            have d4 : decide ((200 : Int) < (x.reply.size : Int)) = true := decide_eq_true d3
            go_wp2
            go_ret
            exact ⟨by rw [few_at HX.out (by unfold En.low; rw [decide_eq_false (show ¬ x.reply.size ≤ 200 by omega), Bool.and_false])]; rfl, HW.out.alloc HW.out.size _⟩
          · have d3 : ¬ (200 : Int) < (x.reply.size : Int) := by omega
            have d4 : decide ((200 : Int) < (x.reply.size : Int)) = false := decide_eq_false d3
            go_wp2
            go_roundg (l.length - (k + 1))
            case measure => omega
            case rel => exact ⟨k + 1, by go_num, by omega, by omega, Lib.hid (HW.out.alloc HW.out.size _), Lib.hid (fun j y hj hy => by
                by_cases e : j = k
                · subst e; rw [HX.out] at hy; cases hy; unfold En.low; rw [decide_eq_true (show x.raw.size ≤ 2100 by have := HR.out; omega), decide_eq_true (show x.reply.size ≤ 200 by omega)]; rfl
                · exact HN.out j y (by omega) hy)⟩
      · have hltz : ¬ (k : Int) < (l.length : Int) := by omega
        go_wp2
        go_ret
        exact ⟨by rw [few_all h60 (fun j x hx => HN.out j x (by have := (List.getElem?_eq_some_iff.1 hx).1; omega) hx)]; rfl, HW.out⟩

set_option maxRecDepth 20000 in
set_option maxHeartbeats 2000000 in
theorem own_c (A : Option Addr) (n c : Nat) (l : List En) (hlen : l.length ≤ 1048576) (w : World) (hI : Ls w.heap.size w (.slice A n c) l) :
    Calls Try.prog 30 #[.slice A n c] w fun e w' => ∃ v, e = .returned v ∧ Ls w'.heap.size w' v l ∧ Below w.heap.size w w' := by
  obtain ⟨i0, hi, hz0, hz1, hz2⟩ := info_parts en_info
  obtain ⟨rfl, hcs⟩ := hI.parts
  have HCS := Lib.hid hcs
  clear hcs hI
  go_enter Try.func30, Try.ntmps30
  go_wp2
  go_loopg [3, 8] l.length (fun kx s3 s8 wr => ∃ (k : Nat) (B : Option Addr) (d : Nat), s3 = .slice B k d ∧ s8 = .int .i64 k ∧ k ≤ l.length ∧ l.length - k ≤ kx ∧ Hid (wr.ownsRow w.heap.size 133 11 (.slice B k d) k ((l.take k).flatMap En.cells)) ∧ Hid (Below w.heap.size w wr))
  case atStart => exact ⟨0, none, 0, rfl, rfl, by omega, by omega, Lib.hid (World.ownsRow_nil ..), Lib.hid (Below.refl _ w)⟩
  case round =>
    obtain ⟨k, B, d, rfl, rfl, hk, hkx, HO, HW⟩ := hrel
    by_cases hlt : k < l.length
    · have hltz : (k : Int) < (l.length : Int) := by omega
      obtain ⟨x, hx⟩ : ∃ x, l[k]? = some x := ⟨l[k], List.getElem?_eq_getElem hlt⟩
      obtain ⟨b, off, rfl, hb, hc⟩ := HCS.out (by omega)
      have hcx : ∀ (i : Nat) (v : Value), x.cells[i]? = some v → wr.cell? ⟨b, off + k * 11 + i, none⟩ = some v := fun i v hv => (HW.out.cell (p := ⟨b, off + k * 11 + i, none⟩) hb).trans (hc k x hx i v hv)
      have c0 : wr.cell? ⟨b, off + k * 11, none⟩ = some (.int .i64 x.kind) := hcx 0 _ rfl
      have c1 := hcx 1 _ rfl; have c2 := hcx 2 _ rfl; have c3 := hcx 3 _ rfl; have c4 := hcx 4 _ rfl; have c5 := hcx 5 _ rfl
      have c6 := hcx 6 _ rfl; have c7 := hcx 7 _ rfl; have c8 := hcx 8 _ rfl; have c9 := hcx 9 _ rfl; have c10 := hcx 10 _ rfl
      have HX := Lib.hid hx
      have hwz := HW.out.size
      clear hx hc hcx hb
      go_wp2_with ((at_builtin; go_must (refine wpList_push (by rfl) _ _ 53 (by rfl) w.heap.size 133 i0 _ 11 104 Try.underlying53 hi hz0 hz1 hz2 rfl (by decide) (by decide) _ _ rfl (by simp [Value.oneCell']) _ _ _ (HO.out.alloc _) (by rfl) (by first | rfl | go_simp) (by omega) (by simp; omega) ?_); intro A1 c1' w1 hown1 hb1))
      go_roundg (l.length - (k + 1))
      case measure => omega
      case rel => exact ⟨k + 1, A1, c1', rfl, by go_num, by omega, by omega, Lib.hid (by rw [List.take_add_one, HX.out, List.flatMap_append]; simpa [En.cells] using hown1), Lib.hid ((HW.out.alloc HW.out.size _).trans hb1)⟩
    · have hltz : ¬ (k : Int) < (l.length : Int) := by omega
      obtain rfl : k = l.length := by omega
      go_wp2
      go_ret
      exact ⟨_, rfl, lies_own en_len (by decide) (by have := HO.out; rwa [List.take_length] at this), HW.out⟩
end Go.Proofs.Ytdoemgccmjddcaa.Sr
