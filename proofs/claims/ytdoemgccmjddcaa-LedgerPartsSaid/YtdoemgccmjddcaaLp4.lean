/- Keep, Copy. -/
import Derived.Maps.RangeWalk
import Derived.Test.YtdoemgccmjddcaaLp1
import Derived.Test.YtdoemgccmjddcaaLp2
import Derived.Test.YtdoemgccmjddcaaLp3
namespace Go.Proofs.Ytdoemgccmjddcaa.Ld
open Go.RowKit Go.Maps Wd Li Sr Sw

def keepL (f : Int → Option Book) (ids : List Int) (left : Lit → Bool) : Int → Option Book := fun i => if i ∈ ids ∧ left (.int .i64 i) = false then f i else none
theorem keepL_start {D : DataW Unit} {f : Int → Option Book} (ids : List Int) (hA : Agree D f) : keepL f ids (Maps.has D) = fun _ => none := by
  funext i
  unfold keepL
  split
  · rename_i h
    have := (hA i).1
    rw [h.2] at this
    cases hf : f i with
    | none => rfl
    | some b => rw [hf] at this; cases this
  · rfl
theorem keepL_end {f : Int → Option Book} {ids : List Int} {left : Lit → Bool} (h : ∀ kl, left kl = false) : keepL f ids left = keepF f ids := by
  funext i; unfold keepL keepF; simp [h]
theorem same_lit (i x : Int) : (Lit.int .i64 i).sameKey (.int .i64 x) = decide (i = x) := by simp [Lit.sameKey]
theorem keepL_in {f : Int → Option Book} {ids : List Int} {left : Lit → Bool} {x : Int} {c : Book} (hf : f x = some c) (hx : x ∈ ids) :
    keepL f ids (fun z => left z && !z.sameKey (.int .i64 x)) = fun i => if i = x then some c else keepL f ids left i := by
  funext i
  unfold keepL
  simp only [same_lit]
  by_cases e : i = x
  · subst e; simp [hx, hf]
  · simp [e]
theorem keepL_out {f : Int → Option Book} {ids : List Int} {left : Lit → Bool} {x : Int} (hx : x ∉ ids) :
    keepL f ids (fun z => left z && !z.sameKey (.int .i64 x)) = keepL f ids left := by
  funext i
  unfold keepL
  simp only [same_lit]
  by_cases e : i = x
  · subst e; simp [hx]
  · simp [e]
theorem Led.grown {w w' : World} {L M n : Nat} {f : Int → Option Book} {row : Option Nat} (h : Led w L M n f) (hg : w.grownBy w' row) (h1 : row ≠ some L) (h2 : row ≠ some M) : Led w' L M n f := by
  obtain ⟨D, ⟨es, ck, hm, r⟩, hA⟩ := h.map
  exact ⟨(hg.block L (lt_of_get h.cell) (Ne.symm h1)).trans h.cell, D, ⟨es, ck, (hg.block M h.lt (Ne.symm h2)).trans hm, r⟩, hA⟩
def KeepOk (f : Int → Option Book) (n : Nat) (w : World) (e : Ending) (w' : World) : Prop := ∃ L' M', e = .returned (.pointer (some ⟨L', 0, none⟩)) ∧ Led w' L' M' n f ∧ w.heap.size ≤ L' ∧ w.heap.size ≤ M' ∧ Below w.heap.size w w'

set_option maxRecDepth 20000 in
set_option maxHeartbeats 4000000 in
theorem keep_c (L M n : Nat) (f : Int → Option Book) (hn : n ≤ 1048576) (A : Option Addr) (c' : Nat) (ids : List Int) (hids : ids.length ≤ 1048576) (w : World) (hl : Led w L M n f) (hI : Sl w w.heap.size 1 A ids.length (St.I ids)) :
    Calls Try.prog 65 #[.pointer (some ⟨L, 0, none⟩), .slice A ids.length c'] w (KeepOk (keepF f ids) n w) := by
  obtain ⟨D, hown, hA⟩ := hl.map
  have hltL := lt_of_get hl.cell
  have hltM := hl.lt
  have hcL : ((w.alloc (.map #[] 0)).alloc (.cells #[.map (some w.heap.size)] 156)).cell? ⟨L, 0, none⟩ = some (.map (some M)) := by
    have h1 := (((Below.refl _ w).alloc (Nat.le_refl _) (.map #[] 0)).alloc (by simp) (.cells #[.map (some w.heap.size)] 156)).block L hltL
    have h2 := h1.trans hl.cell
    simp [World.cell?, h2]
  have hown2 : ((w.alloc (.map #[] 0)).alloc (.cells #[.map (some w.heap.size)] 156)).ownsMap Try.prog 3 bookElem M n D := (hown.alloc _).alloc _
  have hsz := hown.size_le
  have hnl := Lib.hid (new_led w)
  have hbw := Lib.hid (((Below.refl _ w).alloc (Nat.le_refl _) (.map #[] 0)).alloc (by simp) (.cells #[.map (some w.heap.size)] 156))
  have HA := Lib.hid hA; have HL := Lib.hid hl; have HO := Lib.hid hown2; have HI := Lib.hid hI
  clear hown hA hl hown2 hI
  go_enter Try.func65, Try.ntmps65
  go_wp2_with (first
    | (go_at_call 126; refine (new_c _).mono ?_; rintro e w' ⟨rfl, rfl⟩)
    | (at_range; refine wpList_range_own _ rfl _ 154 rfl 3 153 law3 Try.underlying154 _ M n D rfl HO.out ?_; intro w0 hrg0 hg0 hs0))
  go_frame
  have hs0' : w0.heap.size = w.heap.size + 3 := by simpa using hs0
  have hsE : ((w.alloc (.map #[] 0)).alloc (.cells #[.map (some w.heap.size)] 156)).heap.size = w.heap.size + 2 := by simp
  rw [hsE] at hrg0 ⊢
  have HR0 := Lib.hid hrg0
  have hL0 : Hid (Led w0 (w.heap.size + 1) w.heap.size 0 (keepL f ids (Maps.has D))) := Lib.hid (by rw [keepL_start ids HA.out]; exact hnl.out.grown hg0 (by simp) (by simp))
  have hB0 : Hid (Below w.heap.size w w0) := Lib.hid (hbw.out.grown hg0 hbw.out.size (by simp))
  have hS0 : Hid (∀ i : Int, Maps.has D (.int .i64 i) = true → (f i).isSome = true) := Lib.hid (fun i h => by rw [← (HA.out i).1]; exact h)
  clear hrg0 hg0 hs0 hsE hnl hbw
  go_loopg [6] n (fun kx _ wr => ∃ (left : Lit → Bool) (cnt k : Nat), cnt ≤ kx ∧ k + cnt ≤ n ∧ Hid (wr.ranges Try.prog 3 bookElem M (w.heap.size + 2) n D left cnt) ∧ Hid (Led wr (w.heap.size + 1) w.heap.size k (keepL f ids left)) ∧ Hid (∀ i : Int, left (.int .i64 i) = true → (f i).isSome = true) ∧ Hid (Below w.heap.size w wr) ∧ w.heap.size + 3 ≤ wr.heap.size)
  case atStart => exact ⟨_, _, 0, hsz, by omega, HR0, hL0, hS0, hB0, by omega⟩
  case round =>
    obtain ⟨left, cnt, k, hkx, hkn, HR, HK, HS, HB, hwr⟩ := hrel
    clear hs0' HR0 hL0 hS0 hB0
    go_wp2_with (first | (at_next; go_loud (refine wpList_next_ranges _ rfl _ rfl 3 law3 bookElem (fun x : Int => Value.int .i64 x) Book.agg (fun key kl hkey => by obtain ⟨x, rfl, _⟩ := Maps.keyOf_int_inv Try.underlying3 hkey; exact ⟨x, rfl⟩) (fun v y hv => by obtain ⟨b, rfl, _⟩ := bookElem_inv hv; exact ⟨b, rfl⟩) M (w.heap.size + 2) n D left cnt (by rfl) HR.out ?_ ?_)))
    · intro hc0 hl0
      have HE := Lib.hid (keepL_end (f := f) (ids := ids) hl0)
      clear hl0
      go_wp2
      go_ret
      exact ⟨_, _, rfl, by rw [← HE.out]; exact HK.out.more (by omega), by omega, Nat.le_refl _, HB.out⟩
    · intro x c kl y y2 w1 cnt1 hkey hlx hv hat hrg1 hlt hg1 hs1 hen
      obtain ⟨x', hx', rfl, hwf⟩ := Maps.keyOf_int_inv Try.underlying3 hkey
      cases hx'
      rw [bookElem_mk] at hv
      have hfx : f x = some c := by
        have h1 := (HA.out x).2
        have h2 := hat (encB Book.zero)
        rw [h1] at h2
        have h3 := HS.out x hlx
        obtain ⟨b, hb⟩ := Option.isSome_iff_exists.1 h3
        rw [hb] at h2 ⊢
        have : y = encB c := by cases hv; rfl
        rw [this] at h2
        exact congrArg some (encB_inj h2)
      have hL1 := Lib.hid (HK.out.grown hg1 (by simp) (by simp))
      have hB1 := Lib.hid (HB.out.grown hg1 (by omega) (fun j hj => by cases hj; omega))
      have HR1 := Lib.hid hrg1
      have HF := Lib.hid hfx
      have HI1 := Lib.hid (HI.out.below hB1.out)
      have HS1 : Hid (∀ i : Int, ((fun z => left z && !z.sameKey (.int .i64 x)) (.int .i64 i)) = true → (f i).isSome = true) := Lib.hid (fun i h => HS.out i (by simp only [Bool.and_eq_true] at h; exact h.1))
      have hcL1 := cells_of hL1.out.cell 0 _ rfl
      have hwr1 : w.heap.size + 3 ≤ w1.heap.size := by omega
      have hkey2 := Lib.hid hkey
      clear hfx hrg1 hv hat hkey hlx hg1 hs1 hwr HR HK HS HB
      unfold Book.agg at hen
      unfold Book.agg
      by_cases hin : x ∈ ids
      · have hd : decide (x ∈ ids) = true := decide_eq_true hin
        have HIN := Lib.hid hin
        have HC := Lib.hid (fun (u : World) (hu : Sl u w.heap.size 1 A ids.length (St.I ids)) => contains_c A c' ids x hids w.heap.size u hu)
        have HKE := Lib.hid (keepL_in (left := left) HF.out hin)
        clear hin
        go_upto_region 8 with (go_at_call 134; refine (HC.out _ (HI1.out.alloc (by omega) _)).mono ?_; rw [hd]; rintro e w' ⟨rfl, rfl⟩)
        clear hd HC
        generalize hW : World.alloc w1 _ = W
        have hg : ∀ (i : Nat) (v : Value), #[Value.int .i64 c.got, Value.int .i64 c.gotB, Value.int .i64 c.sent, Value.int .i64 c.sentB, Value.int .i64 c.l0, Value.int .i64 c.l1, Value.int .i64 c.l2, Value.int .i64 c.l3, Value.int .i64 c.l4, Value.int .i64 c.l5][i]? = some v → W.cell? ⟨w1.heap.size, i, none⟩ = some v := by intro i v hv; rw [← hW]; exact new_any w1 _ _ i v hv
        have g0 := hg 0 _ rfl
        have g1 := hg 1 _ rfl
        have g2 := hg 2 _ rfl
        have g3 := hg 3 _ rfl
        have g4 := hg 4 _ rfl
        have g5 := hg 5 _ rfl
        have g6 := hg 6 _ rfl
        have g7 := hg 7 _ rfl
        have g8 := hg 8 _ rfl
        have g9 := hg 9 _ rfl
        have hcW : W.cell? ⟨w.heap.size + 1, 0, none⟩ = some (.map (some w.heap.size)) := by rw [← hW]; exact Lib.cell?_alloc_some _ hcL1
        have hLW : Led W (w.heap.size + 1) w.heap.size k (keepL f ids left) := by rw [← hW]; exact hL1.out.below ((Below.refl _ w1).alloc (Nat.le_refl _) _) (by omega) (by omega)
        have HRW : Hid (W.drew.ranges Try.prog 3 bookElem M (w.heap.size + 2) n D (fun z => left z && !z.sameKey (.int .i64 x)) cnt1) := by rw [← hW]; exact Lib.hid ((HR1.out.alloc _).kept (row := none) ⟨rfl, rfl, rfl, Nat.le_refl _, fun _ _ _ => rfl⟩ (by simp) (by simp))
        have HBW : Hid (Below w.heap.size w W) := by rw [← hW]; exact Lib.hid (hB1.out.alloc (by omega) _)
        have hWs : w1.heap.size < W.heap.size := by rw [← hW]; simp
        obtain ⟨D1, hown1, hA1⟩ := hLW.map
        have HOW : Hid (W.drew.ownsMap Try.prog 3 bookElem w.heap.size k D1) := Lib.hid hown1
        have HA1 := Lib.hid hA1
        have HLW := Lib.hid hLW
        have hmx : k < maxLen := by unfold maxLen; omega
        clear hg hW hLW hown1 hA1 hcL1
        go_still_tail 6, (by kernel_rfl)
        change wpList _ _ _ _ _ (World.drew _)
        refine wpList_mapUpdate_own _ (by rfl) _ _ _ 154 (by rfl) 3 153 law3 Try.underlying154 _ w.heap.size k D1 (by rfl) HOW.out hmx _ (Book.agg c) _ (by rfl) (by rfl) hkey2.out _ [] (bookElem_mk _) ?_
        intro w2 hown2 hgrow2
        have HO2 := Lib.hid hown2; have HG2 := Lib.hid hgrow2
        clear hown2 hgrow2
        go_wp2
        go_roundg cnt1
        case measure => omega
        case rel =>
          have hgW : W.drew.grownBy w2 (some w.heap.size) := HG2.out
          refine ⟨fun z => left z && !z.sameKey (.int .i64 x), cnt1, k + 1, Nat.le_refl _, by omega, Lib.hid (World.ranges.kept (w := W.drew) HRW.out hgW (by simp; omega) (by simp)), Lib.hid ?_, HS1, Lib.hid (HBW.out.drew.grown hgW (by simp; omega) (fun j hj => by cases hj; exact Nat.le_refl _)), by have := hgW.size; simp at this; omega⟩
          refine ⟨(hgW.block (w.heap.size + 1) (by simp; omega) (by simp)).trans HLW.out.cell, _, HO2.out, ?_⟩
          rw [HKE.out]
          exact agree_put (owns_isMap law3 HOW.out) HA1.out
      · have hd : decide (x ∈ ids) = false := decide_eq_false hin
        have HIN := Lib.hid hin
        have HC := Lib.hid (fun (u : World) (hu : Sl u w.heap.size 1 A ids.length (St.I ids)) => contains_c A c' ids x hids w.heap.size u hu)
        have HKE := Lib.hid (keepL_out (f := f) (left := left) hin)
        clear hin
        go_wp2_with (go_at_call 134; refine (HC.out _ (HI1.out.alloc (by omega) _)).mono ?_; rw [hd]; rintro e w' ⟨rfl, rfl⟩)
        go_roundg cnt1
        case measure => omega
        case rel =>
          refine ⟨fun z => left z && !z.sameKey (.int .i64 x), cnt1, k, Nat.le_refl _, by omega, Lib.hid (HR1.out.alloc _), Lib.hid ?_, HS1, Lib.hid (hB1.out.alloc (by omega) _), by simp; omega⟩
          rw [HKE.out]
          exact hL1.out.below ((Below.refl _ w1).alloc (Nat.le_refl _) _) (by omega) (by omega)
end Go.Proofs.Ytdoemgccmjddcaa.Ld
