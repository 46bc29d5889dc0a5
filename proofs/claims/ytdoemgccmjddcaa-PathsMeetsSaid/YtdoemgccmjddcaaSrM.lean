/- Entries of a trace; what went, and by which entry it came. Few, Own, and the document's came. The document's came. stats.went: whatever the function that it calls. Differences that are held; the functions that went is handed. -/
import Derived.Test.YtdoemgccmjddcaaLi
import Derived.Test.YtdoemgccmjddcaaStM
import Derived.BigQuiet
import Derived.Deep.DeepCutAuto
import Derived.Deep.CutBlock
import Derived.Handy
import Derived.Maps.OwnSet
import Derived.StillTailTactics
import Derived.Deep.RegionLaw
import Derived.Deep.RegionWith
/- Entries of a trace; what went, and by which entry it came. -/
namespace Go.Proofs.Ytdoemgccmjddcaa.Sr
open Go.RowKit Wd Li

/-- an entry -/
structure En where
  kind : Int
  raw : ByteArray
  n : Int
  okind : Int
  seq : Int
  leaf : Int
  lender : Int
  reason : Int
  now : Int
  wake : Int
  reply : ByteArray
def En.cells (e : En) : List Value := [.int .i64 e.kind, .string e.raw, .int .i64 e.n, .int .i64 e.okind, .int .i64 e.seq, .int .i64 e.leaf, .int .i64 e.lender, .int .i64 e.reason, .int .i64 e.now, .int .i64 e.wake, .string e.reply]
def En.agg (e : En) : Value := .agg #[.int .i64 e.kind, .string e.raw, .int .i64 e.n, .int .i64 e.okind, .int .i64 e.seq, .int .i64 e.leaf, .int .i64 e.lender, .int .i64 e.reason, .int .i64 e.now, .int .i64 e.wake, .string e.reply]
theorem en_len (x : En) : x.cells.length = 11 := rfl
theorem en_one (x : En) : ∀ u ∈ x.cells, u.oneCell' = true := by
  intro u hu; simp [En.cells] at hu
  rcases hu with rfl | rfl | rfl | rfl | rfl | rfl | rfl | rfl | rfl | rfl | rfl <;> rfl
abbrev Ls (n₀ : Nat) (W : World) (sv : Value) (l : List En) : Prop := Lies 11 En.cells n₀ W sv l

/-- it was kept -/
def En.kept (x : En) : Bool := x.kind == 1 && x.reason == 0
/-- it was sent -/
def En.sent (x : En) : Bool := x.kind == 2 && decide (0 < x.seq)
/-- the first that was kept under this number, among the first k -/
def first (l : List En) : Nat → Int → Option Nat
  | 0, _ => none
  | k + 1, s => match first l k s with
    | some j => some j
    | none => match l[k]? with
      | some x => if x.kept && x.seq == s then some k else none
      | none => none
/-- the place of the entry by which what went at 'k' came -/
def came (l : List En) (k : Nat) (x : En) : Option Nat := if x.sent then first l k x.seq else none
/-- what went, with that by which it came -/
def went1 (l : List En) (k : Nat) : List (En × En) :=
  match l[k]? with
  | some x => match came l k x with
    | some j => match l[j]? with
      | some y => [(x, y)]
      | none => []
    | none => []
  | none => []
def went (l : List En) : Nat → List (En × En)
  | 0 => []
  | k + 1 => went l k ++ went1 l k
theorem first_lt {l : List En} {k j : Nat} {s : Int} (h : first l k s = some j) : j < k ∧ ∃ y, l[j]? = some y ∧ y.kept = true ∧ y.seq = s := by
  induction k with
  | zero => cases h
  | succ k ih =>
    unfold first at h
    cases hf : first l k s with
    | some i =>
      rw [hf] at h
      cases h
      obtain ⟨h1, h2⟩ := ih hf
      exact ⟨by omega, h2⟩
    | none =>
      rw [hf] at h
      cases hx : l[k]? with
      | none => rw [hx] at h; cases h
      | some x =>
        rw [hx] at h
        simp only at h
        split at h
        · rename_i hq
          simp only [Bool.and_eq_true, beq_iff_eq] at hq
          cases h
          exact ⟨by omega, x, hx, hq.1, hq.2⟩
        · cases h
theorem first_none {l : List En} {k : Nat} {s : Int} (h : first l k s = none) : ∀ (j : Nat) (y : En), j < k → l[j]? = some y → ¬ (y.kept = true ∧ y.seq = s) := by
  induction k with
  | zero => intro j y hj; omega
  | succ k ih =>
    unfold first at h
    cases hf : first l k s with
    | some i => rw [hf] at h; cases h
    | none =>
      rw [hf] at h
      intro j y hj hy hq
      by_cases e : j = k
      · subst e
        rw [hy] at h
        simp [hq.1, hq.2] at h
      · exact ih hf j y (by omega) hy hq
theorem first_is {l : List En} {k j : Nat} {s : Int} {y : En} (hj : j < k) (hy : l[j]? = some y) (hq : y.kept = true ∧ y.seq = s) (hno : ∀ (i : Nat) (u : En), i < j → l[i]? = some u → ¬ (u.kept = true ∧ u.seq = s)) : first l k s = some j := by
  cases h : first l k s with
  | none => exact absurd hq (first_none h j y hj hy)
  | some i =>
    obtain ⟨h1, u, hu, hk, hs⟩ := first_lt h
    by_cases e : i = j
    · rw [e]
    · by_cases hlt : i < j
      · exact absurd ⟨hk, hs⟩ (hno i u hlt hu)
      · exfalso
        have : ∀ m, m ≤ i → j < m → ∃ q, q ≤ j ∧ first l m s = some q := by
          intro m
          induction m with
          | zero => intro _ h; omega
          | succ m ih =>
            intro hm hjm
            unfold first
            by_cases e2 : j < m
            · obtain ⟨q, h1, h2⟩ := ih (by omega) e2
              rw [h2]; exact ⟨q, h1, rfl⟩
            · obtain rfl : j = m := by omega
              cases hf : first l j s with
              | some q => exact ⟨q, by have := (first_lt hf).1; omega, rfl⟩
              | none => simp only [hy, hq.1, hq.2]; exact ⟨j, Nat.le_refl _, by simp⟩
        have mono : ∀ m q, first l m s = some q → ∀ p, m ≤ p → first l p s = some q := by
          intro m q hm p hp
          induction p with
          | zero => obtain rfl : m = 0 := by omega
                    exact hm
          | succ p ih =>
            by_cases e3 : m = p + 1
            · rw [← e3]; exact hm
            · unfold first; rw [ih (by omega)]
        obtain ⟨q, h2, h3⟩ := this i (Nat.le_refl _) (by omega)
        have := mono i q h3 k (by omega)
        rw [h] at this
        cases this
        omega
end Go.Proofs.Ytdoemgccmjddcaa.Sr

/- Few, Own, and the document's came. -/
namespace Go.Proofs.Ytdoemgccmjddcaa.Sr
open Go.RowKit Wd Li

theorem en_info : (Try.prog.info? 133).map (fun i => (i.zero, i.size, i.bytes)) = some (some (.agg #[.int .i64 0, .string { data := #[] }, .int .i64 0, .int .i64 0, .int .i64 0, .int .i64 0, .int .i64 0, .int .i64 0, .int .i64 0, .int .i64 0, .string { data := #[] }]), 11, 104) := by kernel_rfl

def En.low (x : En) : Bool := decide (x.raw.size ≤ 2100) && decide (x.reply.size ≤ 200)
def fewB (l : List En) : Bool := decide (l.length ≤ 60) && l.all En.low
theorem few_long {l : List En} (h : 60 < l.length) : fewB l = false := by unfold fewB; rw [decide_eq_false (by omega)]; rfl
theorem few_at {l : List En} {k : Nat} {x : En} (hx : l[k]? = some x) (h : x.low = false) : fewB l = false := by
  unfold fewB
  rw [Bool.and_eq_false_iff]
  right
  rw [List.all_eq_false]
  exact ⟨x, List.mem_of_getElem? hx, by rw [h]; decide⟩
theorem few_all {l : List En} (h : ¬ 60 < l.length) (ha : ∀ (j : Nat) (x : En), l[j]? = some x → x.low = true) : fewB l = true := by
  unfold fewB
  rw [decide_eq_true (by omega), Bool.true_and, List.all_eq_true]
  intro x hx
  obtain ⟨j, hj⟩ := List.getElem?_of_mem hx
  exact ha j x hj
theorem few_is {l : List En} (h : fewB l = true) : l.length ≤ 60 ∧ ∀ (j : Nat) (x : En), l[j]? = some x → x.raw.size ≤ 2100 := by
  unfold fewB at h
  rw [Bool.and_eq_true, decide_eq_true_eq, List.all_eq_true] at h
  refine ⟨h.1, fun j x hx => ?_⟩
  have := h.2 x (List.mem_of_getElem? hx)
  unfold En.low at this
  rw [Bool.and_eq_true, decide_eq_true_eq] at this
  exact this.1
def FewOk (l : List En) (w : World) (e : Ending) (w' : World) : Prop := e = .returned (.bool (fewB l)) ∧ Below w.heap.size w w'
set_option maxRecDepth 20000 in
set_option maxHeartbeats 2000000 in
theorem few_c (A : Option Addr) (n c : Nat) (l : List En) (w : World) (hI : Ls w.heap.size w (.slice A n c) l) :
    Calls Try.prog 29 #[.slice A n c, .int .i64 60] w (FewOk l w) := by
  obtain ⟨rfl, hcs⟩ := hI.parts
  have HCS := Lib.hid hcs
  clear hcs hI
  go_enter Try.func29, Try.ntmps29
  by_cases h60 : 60 < l.length
  · have hz : (60 : Int) < (l.length : Int) := by omega
    go_wp2
    go_ret
    exact ⟨by rw [few_long h60]; rfl, Below.refl _ w⟩
  · have hz : ¬ (60 : Int) < (l.length : Int) := by omega
    go_wp2
    go_loopg [13] l.length (fun kx s13 wr => ∃ k : Nat, s13 = .int .i64 k ∧ k ≤ l.length ∧ l.length - k ≤ kx ∧ Hid (Below w.heap.size w wr) ∧ Hid (∀ (j : Nat) (x : En), j < k → l[j]? = some x → x.low = true))
    case atStart => exact ⟨0, rfl, by omega, by omega, Lib.hid (Below.refl _ w), Lib.hid (fun j x h => absurd h (by omega))⟩
    case round =>
      obtain ⟨k, rfl, hk, hkx, HW, HN⟩ := hrel
      by_cases hlt : k < l.length
      · have hltz : (k : Int) < (l.length : Int) := by omega
        obtain ⟨x, hx⟩ : ∃ x, l[k]? = some x := ⟨l[k], List.getElem?_eq_getElem hlt⟩
        obtain ⟨b, off, rfl, hb, hc⟩ := HCS.out (by omega)
        have hcx : ∀ (i : Nat) (v : Value), x.cells[i]? = some v → wr.cell? ⟨b, off + k * 11 + i, none⟩ = some v := fun i v hv => (HW.out.cell (p := ⟨b, off + k * 11 + i, none⟩) hb).trans (hc k x hx i v hv)
        have c0 : wr.cell? ⟨b, off + k * 11, none⟩ = some (.int .i64 x.kind) := hcx 0 _ rfl
        have c1 := hcx 1 _ rfl; have c2 := hcx 2 _ rfl; have c3 := hcx 3 _ rfl; have c4 := hcx 4 _ rfl; have c5 := hcx 5 _ rfl
        have c6 := hcx 6 _ rfl; have c7 := hcx 7 _ rfl; have c8 := hcx 8 _ rfl; have c9 := hcx 9 _ rfl; have c10 := hcx 10 _ rfl
        have HX := Lib.hid hx
        clear hx hc hcx hb
        by_cases hr : 2100 < x.raw.size
        · have d1 : (2100 : Int) < (x.raw.size : Int) := by omega
          have d2 : decide ((2100 : Int) < (x.raw.size : Int)) = true := decide_eq_true d1
          go_wp2
          go_ret
          exact ⟨by rw [few_at HX.out (by unfold En.low; rw [decide_eq_false (by omega)]; rfl)]; rfl, HW.out.alloc HW.out.size _⟩
        · have d1 : ¬ (2100 : Int) < (x.raw.size : Int) := by omega
          have d2 : decide ((2100 : Int) < (x.raw.size : Int)) = false := decide_eq_false d1
          have HR := Lib.hid hr
          clear hr
          by_cases hq : 200 < x.reply.size
          · have d3 : (200 : Int) < (x.reply.size : Int) := by omega
            have d4 : decide ((200 : Int) < (x.reply.size : Int)) = true := decide_eq_true d3
            go_wp2
            go_ret
            exact ⟨by rw [few_at HX.out (by unfold En.low; rw [decide_eq_false (show ¬ x.reply.size ≤ 200 by omega), Bool.and_false])]; rfl, HW.out.alloc HW.out.size _⟩
          · have d3 : ¬ (200 : Int) < (x.reply.size : Int) := by omega
            have d4 : decide ((200 : Int) < (x.reply.size : Int)) = false := decide_eq_false d3
            go_wp2
            go_roundg (l.length - (k + 1))
            case measure => omega
            case rel => exact ⟨k + 1, by go_num, by omega, by omega, Lib.hid (HW.out.alloc HW.out.size _), Lib.hid (fun j y hj hy => by
                by_cases e : j = k
                · subst e; rw [HX.out] at hy; cases hy; unfold En.low; rw [decide_eq_true (show x.raw.size ≤ 2100 by have := HR.out; omega), decide_eq_true (show x.reply.size ≤ 200 by omega)]; rfl
                · exact HN.out j y (by omega) hy)⟩
      · have hltz : ¬ (k : Int) < (l.length : Int) := by omega
        go_wp2
        go_ret
        exact ⟨by rw [few_all h60 (fun j x hx => HN.out j x (by have := (List.getElem?_eq_some_iff.1 hx).1; omega) hx)]; rfl, HW.out⟩

set_option maxRecDepth 20000 in
set_option maxHeartbeats 2000000 in
theorem own_c (A : Option Addr) (n c : Nat) (l : List En) (hlen : l.length ≤ 1048576) (w : World) (hI : Ls w.heap.size w (.slice A n c) l) :
    Calls Try.prog 30 #[.slice A n c] w fun e w' => ∃ v, e = .returned v ∧ Ls w'.heap.size w' v l ∧ Below w.heap.size w w' := by
  obtain ⟨i0, hi, hz0, hz1, hz2⟩ := info_parts en_info
  obtain ⟨rfl, hcs⟩ := hI.parts
  have HCS := Lib.hid hcs
  clear hcs hI
  go_enter Try.func30, Try.ntmps30
  go_wp2
  go_loopg [3, 8] l.length (fun kx s3 s8 wr => ∃ (k : Nat) (B : Option Addr) (d : Nat), s3 = .slice B k d ∧ s8 = .int .i64 k ∧ k ≤ l.length ∧ l.length - k ≤ kx ∧ Hid (wr.ownsRow w.heap.size 133 11 (.slice B k d) k ((l.take k).flatMap En.cells)) ∧ Hid (Below w.heap.size w wr))
  case atStart => exact ⟨0, none, 0, rfl, rfl, by omega, by omega, Lib.hid (World.ownsRow_nil ..), Lib.hid (Below.refl _ w)⟩
  case round =>
    obtain ⟨k, B, d, rfl, rfl, hk, hkx, HO, HW⟩ := hrel
    by_cases hlt : k < l.length
    · have hltz : (k : Int) < (l.length : Int) := by omega
      obtain ⟨x, hx⟩ : ∃ x, l[k]? = some x := ⟨l[k], List.getElem?_eq_getElem hlt⟩
      obtain ⟨b, off, rfl, hb, hc⟩ := HCS.out (by omega)
      have hcx : ∀ (i : Nat) (v : Value), x.cells[i]? = some v → wr.cell? ⟨b, off + k * 11 + i, none⟩ = some v := fun i v hv => (HW.out.cell (p := ⟨b, off + k * 11 + i, none⟩) hb).trans (hc k x hx i v hv)
      have c0 : wr.cell? ⟨b, off + k * 11, none⟩ = some (.int .i64 x.kind) := hcx 0 _ rfl
      have c1 := hcx 1 _ rfl; have c2 := hcx 2 _ rfl; have c3 := hcx 3 _ rfl; have c4 := hcx 4 _ rfl; have c5 := hcx 5 _ rfl
      have c6 := hcx 6 _ rfl; have c7 := hcx 7 _ rfl; have c8 := hcx 8 _ rfl; have c9 := hcx 9 _ rfl; have c10 := hcx 10 _ rfl
      have HX := Lib.hid hx
      have hwz := HW.out.size
      clear hx hc hcx hb
      go_wp2_with ((at_builtin; go_must (refine wpList_push (by rfl) _ _ 53 (by rfl) w.heap.size 133 i0 _ 11 104 Try.underlying53 hi hz0 hz1 hz2 rfl (by decide) (by decide) _ _ rfl (by simp [Value.oneCell']) _ _ _ (HO.out.alloc _) (by rfl) (by first | rfl | go_simp) (by omega) (by simp; omega) ?_); intro A1 c1' w1 hown1 hb1))
      go_roundg (l.length - (k + 1))
      case measure => omega
      case rel => exact ⟨k + 1, A1, c1', rfl, by go_num, by omega, by omega, Lib.hid (by rw [List.take_add_one, HX.out, List.flatMap_append]; simpa [En.cells] using hown1), Lib.hid ((HW.out.alloc HW.out.size _).trans hb1)⟩
    · have hltz : ¬ (k : Int) < (l.length : Int) := by omega
      obtain rfl : k = l.length := by omega
      go_wp2
      go_ret
      exact ⟨_, rfl, lies_own en_len (by decide) (by have := HO.out; rwa [List.take_length] at this), HW.out⟩
end Go.Proofs.Ytdoemgccmjddcaa.Sr

/- The document's came. -/
namespace Go.Proofs.Ytdoemgccmjddcaa.Sr
open Go.RowKit Wd Li

def idx : Option Nat → Int
  | some k => k
  | none => -1
def CameOk (i : Int) (w : World) (e : Ending) (w' : World) : Prop := ∃ q, e = .returned (.int .i64 i) ∧ w' = w.drewN q

set_option maxRecDepth 20000 in
set_option maxHeartbeats 4000000 in
theorem came_c (A : Option Addr) (n c at_ : Nat) (l : List En) (hlen : l.length ≤ 1048576) (N : Nat) (w : World) (hI : Ls N w (.slice A n c) l) (x : En) (hx : l[at_]? = some x) :
    Calls Try.prog 112 #[.slice A n c, .int .i64 at_] w (CameOk (idx (came l at_ x)) w) := by
  obtain ⟨rfl, hcs⟩ := hI.parts
  have hat : at_ < l.length := (List.getElem?_eq_some_iff.1 hx).1
  have hatz : (at_ : Int) < (l.length : Int) := by omega
  obtain ⟨b, off, rfl, _, hc⟩ := hcs (by omega)
  have x0 : w.cell? ⟨b, off + at_ * 11, none⟩ = some (.int .i64 x.kind) := hc at_ x hx 0 _ rfl
  have x4 := hc at_ x hx 4 _ rfl
  have HC := Lib.hid hc
  have HX := Lib.hid hx
  clear hcs hI hc hx
  go_enter Try.func112, Try.ntmps112
  go_wp2_with fail
  go_loopg [5] at_ (fun kx s5 wr => ∃ k q : Nat, s5 = .int .i64 k ∧ k ≤ at_ ∧ at_ - k ≤ kx ∧ wr = w.drewN q ∧ Hid (x.sent = true → first l k x.seq = none))
  case atStart => exact ⟨0, 0, rfl, by omega, by omega, rfl, Lib.hid (fun _ => rfl)⟩
  case round =>
    obtain ⟨k, q, rfl, hk, hkx, rfl, HN⟩ := hrel
    by_cases hlt : k < at_
    · have hltz : (k : Int) < (at_ : Int) := by omega
      have hkl : (k : Int) < (l.length : Int) := by omega
      obtain ⟨y, hy⟩ : ∃ y, l[k]? = some y := ⟨l[k], List.getElem?_eq_getElem (by omega)⟩
      have y0 : w.cell? ⟨b, off + k * 11, none⟩ = some (.int .i64 y.kind) := HC.out k y hy 0 _ rfl
      have y4 := HC.out k y hy 4 _ rfl
      have y7 := HC.out k y hy 7 _ rfl
      have HY := Lib.hid hy
      clear hy
      by_cases h0 : y.kind = 1
      · have e0 : (y.kind == 1) = true := by rw [beq_iff_eq]; exact h0
        have H0 := Lib.hid h0
        clear h0
        by_cases h1 : y.reason = 0
        · have e1 : (y.reason == 0) = true := by rw [beq_iff_eq]; exact h1
          have H1 := Lib.hid h1
          clear h1
          by_cases h2 : y.seq = x.seq
          · have e2 : (y.seq == x.seq) = true := by rw [beq_iff_eq]; exact h2
            have H2 := Lib.hid h2
            clear h2
            by_cases h3 : x.kind = 2
            · have e3 : (x.kind == 2) = true := by rw [beq_iff_eq]; exact h3
              have H3 := Lib.hid h3
              clear h3
              by_cases h4 : 0 < x.seq
              · have e4 : decide (0 < x.seq) = true := decide_eq_true h4
                have H4 := Lib.hid h4
                go_wp2_with fail
                go_quiet (fail)
                go_wp2
                go_ret
                refine ⟨_, ?_, by first | rfl | exact (World.drewN_drewN _ _ _)⟩
                have hs : x.sent = true := by simp [En.sent, H3.out, h4]
                have : came l at_ x = some k := by
                  unfold came
                  rw [if_pos hs]
                  exact first_is hlt HY.out ⟨by simp [En.kept, H0.out, H1.out], H2.out⟩ (fun i u hi hu => first_none (HN.out hs) i u hi hu)
                rw [this]; rfl
              · have e4 : decide (0 < x.seq) = false := decide_eq_false h4
                have H4 := Lib.hid h4
                go_wp2_with fail
                go_quiet (fail)
                go_wp2
                go_roundg (at_ - (k + 1))
                case measure => omega
                case rel => exact ⟨k + 1, _, by go_num, by omega, by omega, by first | rfl | exact (World.drewN_drewN _ _ _), Lib.hid (fun hs => by
                  have h0 := HN.out hs
                  unfold first
                  simp only [h0, HY.out]
                  rw [if_neg]
                  simp [En.sent] at hs; have := H4.out; omega)⟩
            · have e3 : (x.kind == 2) = false := by rw [beq_eq_false_iff_ne]; exact h3
              have H3 := Lib.hid h3
              clear h3
              go_wp2_with fail
              go_quiet (fail)
              go_wp2
              go_roundg (at_ - (k + 1))
              case measure => omega
              case rel => exact ⟨k + 1, _, by go_num, by omega, by omega, by first | rfl | exact (World.drewN_drewN _ _ _), Lib.hid (fun hs => by
                have h0 := HN.out hs
                unfold first
                simp only [h0, HY.out]
                rw [if_neg]
                simp [En.sent, H3.out] at hs)⟩
          · have e2 : (y.seq == x.seq) = false := by rw [beq_eq_false_iff_ne]; exact h2
            have H2 := Lib.hid h2
            clear h2
            go_wp2_with fail
            go_quiet (fail)
            go_wp2
            go_roundg (at_ - (k + 1))
            case measure => omega
            case rel => exact ⟨k + 1, _, by go_num, by omega, by omega, by first | rfl | exact (World.drewN_drewN _ _ _), Lib.hid (fun hs => by
              have h0 := HN.out hs
              unfold first
              simp only [h0, HY.out]
              rw [if_neg]
              simp [H2.out])⟩
        · have e1 : (y.reason == 0) = false := by rw [beq_eq_false_iff_ne]; exact h1
          have H1 := Lib.hid h1
          clear h1
          go_wp2_with fail
          go_quiet (fail)
          go_wp2
          go_roundg (at_ - (k + 1))
          case measure => omega
          case rel => exact ⟨k + 1, _, by go_num, by omega, by omega, by first | rfl | exact (World.drewN_drewN _ _ _), Lib.hid (fun hs => by
            have h0 := HN.out hs
            unfold first
            simp only [h0, HY.out]
            rw [if_neg]
            simp [En.kept, H1.out])⟩
      · have e0 : (y.kind == 1) = false := by rw [beq_eq_false_iff_ne]; exact h0
        have H0 := Lib.hid h0
        clear h0
        go_wp2_with fail
        go_quiet (fail)
        go_wp2
        go_roundg (at_ - (k + 1))
        case measure => omega
        case rel => exact ⟨k + 1, _, by go_num, by omega, by omega, by first | rfl | exact (World.drewN_drewN _ _ _), Lib.hid (fun hs => by
          have h0 := HN.out hs
          unfold first
          simp only [h0, HY.out]
          rw [if_neg]
          simp [En.kept, H0.out])⟩
    · have hltz : ¬ (k : Int) < (at_ : Int) := by omega
      obtain rfl : k = at_ := by omega
      go_wp2
      go_ret
      refine ⟨_, ?_, by first | rfl | exact (World.drewN_drewN _ _ _)⟩
      have : came l k x = none := by
        unfold came
        by_cases hs : x.sent = true
        · rw [if_pos hs]; exact HN.out hs
        · rw [if_neg hs]
      rw [this]; rfl
end Go.Proofs.Ytdoemgccmjddcaa.Sr

/- stats.went: whatever the function that it calls. -/
namespace Go.Proofs.Ytdoemgccmjddcaa.Sr
open Go.RowKit Go.Maps Wd Li

structure CellsKept (w w' : World) : Prop where
  size : w.heap.size ≤ w'.heap.size
  blk : ∀ (k : Nat) cs e fr, w.heap[k]? = some (.cells cs e fr) → w'.heap[k]? = some (.cells cs e fr)
theorem CellsKept.refl (w : World) : CellsKept w w := ⟨Nat.le_refl _, fun _ _ _ _ h => h⟩
theorem CellsKept.trans {a b c : World} (h : CellsKept a b) (k : CellsKept b c) : CellsKept a c := ⟨Nat.le_trans h.size k.size, fun i cs e fr hh => k.blk i cs e fr (h.blk i cs e fr hh)⟩
theorem lt_of_get {w : World} {k : Nat} {o : Obj} (h : w.heap[k]? = some o) : k < w.heap.size := by
  rcases Nat.lt_or_ge k w.heap.size with h1 | h1
  · exact h1
  · rw [Array.getElem?_eq_none h1] at h; cases h
theorem CellsKept.alloc (w : World) (o : Obj) : CellsKept w (w.alloc o) := ⟨by simp, fun k cs e fr h => (Below.heap_alloc w o k (lt_of_get h)).trans h⟩
theorem CellsKept.drew (w : World) : CellsKept w w.drew := ⟨Nat.le_refl _, fun _ _ _ _ h => h⟩
theorem CellsKept.map {w w' : World} {M : Nat} {es clock} (hm : w.heap[M]? = some (.map es clock)) (hg : w.grownBy w' (some M)) : CellsKept w w' :=
  ⟨hg.size, fun k cs e fr h => (hg.block k (lt_of_get h) (fun e => by cases e; rw [hm] at h; cases h)).trans h⟩
def MapsKept (w w' : World) : Prop := ∀ (k : Nat) es clock, w.heap[k]? = some (.map es clock) → w'.heap[k]? = some (.map es clock)
theorem MapsKept.owns {H : Type} {P : Program} {k : TypeId} {R : Value → Option (DataW H × List MemPlace)} {w w' : World} {b n : Nat} {D : DataW H} (h : MapsKept w w') (hown : w.ownsMap P k R b n D) : w'.ownsMap P k R b n D := by
  obtain ⟨es, ck, hb, F, hs, hD⟩ := hown
  exact ⟨es, ck, h _ _ _ hb, F, hs, hD⟩
theorem owns_is_map {H : Type} {P : Program} {k : TypeId} {R : Value → Option (DataW H × List MemPlace)} {w : World} {b n : Nat} {D : DataW H} (hown : w.ownsMap P k R b n D) : ∃ es ck, w.heap[b]? = some (.map es ck) := by
  obtain ⟨es, ck, hb, F, hs, hD⟩ := hown
  exact ⟨es, ck, hb⟩
theorem owns_isMap {H : Type} {P : Program} {k : TypeId} {R : Value → Option (DataW H × List MemPlace)} {w : World} {b n : Nat} {D : DataW H} (K : Keyed P k) (hown : w.ownsMap P k R b n D) : IsMap D := (hown.tidy K).isMap

def i64 (n : Int) : DataW Unit := .lit (.int .i64 n)
/-- the map holds the first places -/
def Agree (D : DataW Unit) (l : List En) (k : Nat) : Prop := ∀ s : Int, Maps.has D (.int .i64 s) = (first l k s).isSome ∧ ∀ j, first l k s = some j → D.atKey (.int .i64 s) (i64 0) = i64 j
theorem first_step {l : List En} {k : Nat} {x : En} (hx : l[k]? = some x) (s : Int) : first l (k + 1) s = match first l k s with | some j => some j | none => if x.kept && x.seq == s then some k else none := by
  show (match first l k s with | some j => some j | none => match l[k]? with | some x => if x.kept && x.seq == s then some k else none | none => none) = _
  rw [hx]
theorem agree_keep {D : DataW Unit} {l : List En} {k : Nat} {x : En} (hx : l[k]? = some x) (h : ¬ (x.kept = true ∧ first l k x.seq = none)) (hA : Agree D l k) : Agree D l (k + 1) := by
  intro s
  have e : first l (k + 1) s = first l k s := by
    rw [first_step hx]
    cases hf : first l k s with
    | some j => rfl
    | none =>
      simp only
      rw [if_neg]
      intro hq
      simp only [Bool.and_eq_true, beq_iff_eq] at hq
      exact h ⟨hq.1, by rw [hq.2]; exact hf⟩
  rw [e]; exact hA s
theorem agree_put {D : DataW Unit} {l : List En} {k : Nat} {x : En} (hx : l[k]? = some x) (hk : x.kept = true) (hn : first l k x.seq = none) (hD : IsMap D) (hA : Agree D l k) : Agree (D.put (.int .i64 x.seq) (i64 k)) l (k + 1) := by
  intro s
  have hkey : WideAt.IsKeyLit (.int .i64 x.seq) := trivial
  by_cases e : s = x.seq
  · subst e
    have e1 : first l (k + 1) x.seq = some k := by rw [first_step hx, hn]; simp [hk]
    rw [e1]
    exact ⟨has_put_same hD hkey _, fun j hj => by cases hj; exact atKey_put_same hD hkey _ _⟩
  · have hne : (Lit.int .i64 s) ≠ .int .i64 x.seq := fun h => e (by injection h)
    have e1 : first l (k + 1) s = first l k s := by
      rw [first_step hx]
      cases hf : first l k s with
      | some j => rfl
      | none =>
        simp only
        rw [if_neg]
        intro hq
        simp only [Bool.and_eq_true, beq_iff_eq] at hq
        exact e hq.2.symm
    rw [e1, has_put_other hne, atKey_put_other hne]
    exact hA s
theorem went_none {l : List En} {k : Nat} {x : En} (hx : l[k]? = some x) (h : came l k x = none) : went l (k + 1) = went l k := by
  show went l k ++ went1 l k = _
  unfold went1; rw [hx]; simp only [h, List.append_nil]
theorem went_some {l : List En} {k j : Nat} {x y : En} (hx : l[k]? = some x) (h : came l k x = some j) (hy : l[j]? = some y) : went l (k + 1) = went l k ++ [(x, y)] := by
  show went l k ++ went1 l k = _
  unfold went1; rw [hx]; simp only [h, hy]
theorem went_len (l : List En) : ∀ k, (went l k).length ≤ k
  | 0 => Nat.le_refl _
  | k + 1 => by
    have := went_len l k
    show (went l k ++ went1 l k).length ≤ k + 1
    have h2 : (went1 l k).length ≤ 1 := by
      unfold went1
      split
      · split
        · split <;> simp
        · simp
      · simp
    rw [List.length_append]
    omega
theorem law3 : Keyed Try.prog 3 := int_keyed Try.underlying3
theorem zero3 (w : World) : (zeroValue 3).run Try.prog w = .ok (.int .i64 0) w := by kernel_rfl

/-- a call of a function value that is known -/
theorem wpList_value {P : Program} {ops : Array Oper} {rest : List Oper} {o : Oper} {a : Act} {Q : Exit → Act → World → Prop} {w : World} (hgd : o.guard = none) (t : Operand) (xs : Array Operand) (ts : Array TypeId)
    (ho : o.op = .call { callee := .value t, args := xs, argTypes := ts }) (fid : FuncId) (caps : Array Value) (hv : a.eval t = .func (.func fid) #[] caps) (args : Array Value) (hargs : xs.map a.eval ++ caps = args)
    (eg : ∀ args w, (callFunc fid args).run P w = .ok (.enter fid args) w)
    (h : Calls P fid args w fun e w' => ∃ v, e = .returned v ∧ wpList P ops Q rest (a.put o.dst v) w') : wpList P ops Q (o :: rest) a w := by
  refine wpList_plain hgd fun K hK => ?_
  have hrun : (execOp a.eval o).run P w = .ok (.enter fid args) w := by
    subst hargs
    simp [execOp, ho, resolve, hv, invoke, eg, Deferred.ofValue]
  unfold Oper.wp
  rw [hrun]
  refine Calls.mono h ?_
  rintro e w' ⟨v, rfl, hv⟩
  exact hK _ _ hv

def WentOk (Inv : List (En × En) → World → Prop) (ps : List (En × En)) (e : Ending) (w' : World) : Prop := ∃ v, e = .returned v ∧ Inv ps w'

theorem new_en (w : World) (x : En) : ∀ (i : Nat) (v : Value), x.cells[i]? = some v → (w.alloc (.cells #[.int .i64 x.kind, .string x.raw, .int .i64 x.n, .int .i64 x.okind, .int .i64 x.seq, .int .i64 x.leaf, .int .i64 x.lender, .int .i64 x.reason, .int .i64 x.now, .int .i64 x.wake, .string x.reply] 133)).cell? ⟨w.heap.size, i, none⟩ = some v := by
  intro i v hv
  have hi : i < 11 := (List.getElem?_eq_some_iff.1 hv).1
  have hh := heap_alloc_new w (.cells #[.int .i64 x.kind, .string x.raw, .int .i64 x.n, .int .i64 x.okind, .int .i64 x.seq, .int .i64 x.leaf, .int .i64 x.lender, .int .i64 x.reason, .int .i64 x.now, .int .i64 x.wake, .string x.reply] 133)
  simp only [World.cell?, hh]
  rw [← hv]
  simp [En.cells]

set_option maxRecDepth 20000 in
set_option maxHeartbeats 4000000 in
theorem went_c (fid : FuncId) (caps : Array Value) (A : Option Addr) (n c : Nat) (l : List En) (hlen : l.length ≤ 1048576) (hwf : ∀ (j : Nat) (x : En), l[j]? = some x → (Lit.int .i64 x.seq).wf = true) (Inv : List (En × En) → World → Prop)
    (eg : ∀ args w, (callFunc fid args).run Try.prog w = .ok (.enter fid args) w)
    (hls : ∀ ps w, Inv ps w → Ls w.heap.size w (.slice A n c) l)
    (hcall : ∀ ps x y w, Inv ps w → x ∈ l → y ∈ l → ps.length < l.length → Calls Try.prog fid (#[x.agg, y.agg] ++ caps) w fun e w' => ∃ v, e = .returned v ∧ Inv (ps ++ [(x, y)]) w' ∧ MapsKept w w' ∧ w.heap.size ≤ w'.heap.size)
    (w : World) (hst : ∀ ps w1 w2, Inv ps w1 → CellsKept w1 w2 → Below w.heap.size w1 w2 → Inv ps w2) (hi : Inv [] w) :
    Calls Try.prog 108 #[.slice A n c, .func (.func fid) #[] caps] w (WentOk Inv (went l l.length)) := by
  have hmm := @run_makeMap Try.prog
  have HI := Lib.hid hi
  have HST := Lib.hid hst
  have HLS := Lib.hid hls
  have HCALL := Lib.hid hcall
  have HWF := Lib.hid hwf
  obtain rfl : n = l.length := (hls _ _ hi).parts.1
  clear hi hst hls hcall hwf
  go_enter Try.func108, Try.ntmps108
  go_wp2_with fail
  go_loopg [14] l.length (fun kx s14 wr => ∃ (k : Nat) (D : DataW Unit), s14 = .int .i64 k ∧ k ≤ l.length ∧ l.length - k ≤ kx ∧ Hid (wr.ownsMap Try.prog 3 (plainElem Try.prog 3) w.heap.size k D) ∧ Hid (Agree D l k) ∧ Hid (Inv (went l k) wr) ∧ w.heap.size < wr.heap.size)
  case atStart =>
    refine ⟨0, .map [], rfl, by omega, by omega, Lib.hid (World.ownsMap_made _ _ _ _), Lib.hid (fun s => ⟨rfl, fun j h => by cases h⟩), Lib.hid ?_, by simp⟩
    exact HST.out _ _ _ HI.out (CellsKept.alloc _ _) ((Below.refl _ _).alloc (Nat.le_refl _) _)
  case round =>
    obtain ⟨k, D, rfl, hk, hkx, HO, HA, HN, hsz⟩ := hrel
    by_cases hlt : k < l.length
    · have hltz : (k : Int) < (l.length : Int) := by omega
      obtain ⟨x, hx⟩ : ∃ x, l[k]? = some x := ⟨l[k], List.getElem?_eq_getElem hlt⟩
      obtain ⟨b, off, rfl, hb, hc⟩ := ((HLS.out _ _ HN.out).parts.2) (by omega)
      have hcx := hc k x hx
      have c0 : wr.cell? ⟨b, off + k * 11, none⟩ = some (.int .i64 x.kind) := hcx 0 _ rfl
      have c1 := hcx 1 _ rfl; have c2 := hcx 2 _ rfl; have c3 := hcx 3 _ rfl; have c4 := hcx 4 _ rfl; have c5 := hcx 5 _ rfl
      have c6 := hcx 6 _ rfl; have c7 := hcx 7 _ rfl; have c8 := hcx 8 _ rfl; have c9 := hcx 9 _ rfl; have c10 := hcx 10 _ rfl
      have HX := Lib.hid hx
      have HC := Lib.hid hc
      have HB := Lib.hid hb
      have hkey := keyOf_int_mk (P := Try.prog) (k := 3) Try.underlying3 (HWF.out k x hx)
      clear hx hc hcx
      have hmx : k < maxLen := by unfold maxLen; omega
      have hwfk : (Lit.int .i64 (k : Int)).wf = true := WalkArith.wf_i64 (by omega)
      by_cases h1 : x.kind = 1
      · have e1 : (x.kind == 1) = true := by rw [beq_iff_eq]; exact h1
        have H1 := Lib.hid h1
        clear h1
        cases hf : first l k x.seq with
        | some j =>
          have hh : Maps.has D (.int .i64 x.seq) = true := by rw [(HA.out _).1, hf]; rfl
          have HF := Lib.hid hf
          clear hf
          go_wp2_with (first | (at_lookup; refine wpList_lookup_own_ok_int _ (by rfl) _ _ 164 (by rfl) 3 3 .i64 law3 Try.underlying164 Try.underlying3 (zero3 _) w.heap.size k D (by rfl) (HO.out.alloc _) _ _ (by rfl) hkey ?_; intro q hat hwq))
          go_roundg (l.length - (k + 1))
          case measure => omega
          case rel =>
            refine ⟨k + 1, D, by go_num, by omega, by omega, Lib.hid ((HO.out.alloc _).mono (Nat.le_succ k)), Lib.hid (agree_keep HX.out ?_ HA.out), Lib.hid ?_, by simp; omega⟩
            · intro h; rw [HF.out] at h; cases h.2
            · rw [went_none HX.out (by unfold came; rw [if_neg]; simp [En.sent, H1.out])]
              exact HST.out _ _ _ HN.out (CellsKept.alloc _ _) ((Below.refl _ _).alloc (Nat.le_of_lt hsz) _)
        | none =>
          have hh : Maps.has D (.int .i64 x.seq) = false := by rw [(HA.out _).1, hf]; rfl
          have HF := Lib.hid hf
          clear hf
          by_cases h2 : x.reason = 0
          · have e2 : (x.reason == 0) = true := by rw [beq_iff_eq]; exact h2
            have H2 := Lib.hid h2
            clear h2
            go_wp2_with (first | (at_lookup; refine wpList_lookup_own_ok_int _ (by rfl) _ _ 164 (by rfl) 3 3 .i64 law3 Try.underlying164 Try.underlying3 (zero3 _) w.heap.size k D (by rfl) (HO.out.alloc _) _ _ (by rfl) hkey ?_; intro q hat hwq) | (at_mapUpdate; refine wpList_mapUpdate_own _ (by rfl) _ _ _ 164 (by rfl) 3 3 law3 Try.underlying164 _ w.heap.size k D (by rfl) (HO.out.alloc _) hmx _ _ _ (by rfl) (by rfl) hkey _ [] (plainElem_int Try.underlying3 hwfk) ?_; intro w1 hown1 hgrow1))
            go_roundg (l.length - (k + 1))
            case measure => omega
            case rel =>
              refine ⟨k + 1, _, by go_num, by omega, by omega, Lib.hid hown1, Lib.hid (agree_put HX.out (by simp [En.kept, H1.out, H2.out]) HF.out (owns_isMap law3 HO.out) HA.out), Lib.hid ?_, by have := hgrow1.size; simp at this; omega⟩
              rw [went_none HX.out (by unfold came; rw [if_neg]; simp [En.sent, H1.out])]
              obtain ⟨es, ck, hm⟩ := owns_is_map (HO.out.alloc (.cells #[.int .i64 x.kind, .string x.raw, .int .i64 x.n, .int .i64 x.okind, .int .i64 x.seq, .int .i64 x.leaf, .int .i64 x.lender, .int .i64 x.reason, .int .i64 x.now, .int .i64 x.wake, .string x.reply] 133))
              exact HST.out _ _ _ HN.out ((CellsKept.alloc _ _).trans (CellsKept.map hm hgrow1)) (((Below.refl _ _).alloc (Nat.le_of_lt hsz) _).grown hgrow1 (by simp; omega) (fun k hk => by cases hk; exact Nat.le_refl _))
          · have e2 : (x.reason == 0) = false := by rw [beq_eq_false_iff_ne]; exact h2
            have H2 := Lib.hid h2
            clear h2
            go_wp2_with (first | (at_lookup; refine wpList_lookup_own_ok_int _ (by rfl) _ _ 164 (by rfl) 3 3 .i64 law3 Try.underlying164 Try.underlying3 (zero3 _) w.heap.size k D (by rfl) (HO.out.alloc _) _ _ (by rfl) hkey ?_; intro q hat hwq))
            go_roundg (l.length - (k + 1))
            case measure => omega
            case rel =>
              refine ⟨k + 1, D, by go_num, by omega, by omega, Lib.hid ((HO.out.alloc _).mono (Nat.le_succ k)), Lib.hid (agree_keep HX.out ?_ HA.out), Lib.hid ?_, by simp; omega⟩
              · intro h; have := h.1; simp [En.kept, H2.out] at this
              · rw [went_none HX.out (by unfold came; rw [if_neg]; simp [En.sent, H1.out])]
                exact HST.out _ _ _ HN.out (CellsKept.alloc _ _) ((Below.refl _ _).alloc (Nat.le_of_lt hsz) _)
      · have e1 : (x.kind == 1) = false := by rw [beq_eq_false_iff_ne]; exact h1
        have H1 := Lib.hid h1
        clear h1
        by_cases h2 : x.kind = 2
        · have e2 : (x.kind == 2) = true := by rw [beq_iff_eq]; exact h2
          have H2 := Lib.hid h2
          clear h2
          cases hf : first l k x.seq with
          | none =>
            have hh : Maps.has D (.int .i64 x.seq) = false := by rw [(HA.out _).1, hf]; rfl
            have HF := Lib.hid hf
            clear hf
            go_wp2_with (first | (at_lookup; refine wpList_lookup_own_ok_int _ (by rfl) _ _ 164 (by rfl) 3 3 .i64 law3 Try.underlying164 Try.underlying3 (zero3 _) w.heap.size k D (by rfl) (HO.out.alloc _) _ _ (by rfl) hkey ?_; intro q hat hwq))
            go_roundg (l.length - (k + 1))
            case measure => omega
            case rel =>
              refine ⟨k + 1, D, by go_num, by omega, by omega, Lib.hid ((HO.out.alloc _).mono (Nat.le_succ k)), Lib.hid (agree_keep HX.out ?_ HA.out), Lib.hid ?_, by simp; omega⟩
              · intro h; have := h.1; simp [En.kept, H1.out] at this
              · rw [went_none HX.out (by unfold came; split; exact HF.out; rfl)]
                exact HST.out _ _ _ HN.out (CellsKept.alloc _ _) ((Below.refl _ _).alloc (Nat.le_of_lt hsz) _)
          | some j =>
            have hh : Maps.has D (.int .i64 x.seq) = true := by rw [(HA.out _).1, hf]; rfl
            have HF := Lib.hid hf
            clear hf
            by_cases h3 : 0 < x.seq
            · have e3 : decide (0 < x.seq) = true := decide_eq_true h3
              have H3 := Lib.hid h3
              clear h3
              go_upto_region 12 with (first | (at_lookup; refine wpList_lookup_own_ok_int _ (by rfl) _ _ 164 (by rfl) 3 3 .i64 law3 Try.underlying164 Try.underlying3 (zero3 _) w.heap.size k D (by rfl) (HO.out.alloc _) _ _ (by rfl) hkey ?_; intro q hat hwq))
              obtain rfl : q = (j : Int) := by
                have h9 := hat.symm.trans ((HA.out x.seq).2 j HF.out)
                simpa [i64] using h9
              obtain ⟨hj, y, hy, _, _⟩ := first_lt HF.out
              have hjl : (j : Int) < (l.length : Int) := by omega
              generalize hWW : World.alloc wr _ = W
              have hBW : Below wr.heap.size wr W := by rw [← hWW]; exact (Below.refl _ _).alloc (Nat.le_refl _) _
              have hCW : CellsKept wr W := by rw [← hWW]; exact CellsKept.alloc _ _
              have hOW : W.ownsMap Try.prog 3 (plainElem Try.prog 3) w.heap.size k D := by rw [← hWW]; exact HO.out.alloc _
              have hg : ∀ (i : Nat) (v : Value), x.cells[i]? = some v → W.cell? ⟨wr.heap.size, i, none⟩ = some v := by intro i v hv; rw [← hWW]; exact new_en wr x i v hv
              have g0 := hg 0 _ rfl
              have g1 := hg 1 _ rfl
              have g2 := hg 2 _ rfl
              have g3 := hg 3 _ rfl
              have g4 := hg 4 _ rfl
              have g5 := hg 5 _ rfl
              have g6 := hg 6 _ rfl
              have g7 := hg 7 _ rfl
              have g8 := hg 8 _ rfl
              have g9 := hg 9 _ rfl
              have g10 := hg 10 _ rfl
              have hcy : ∀ (i : Nat) (v : Value), y.cells[i]? = some v → W.cell? ⟨b, off + j * 11 + i, none⟩ = some v := fun i v hv => (hBW.cell (p := ⟨b, off + j * 11 + i, none⟩) HB.out).trans (HC.out j y hy i v hv)
              have d0 : W.cell? ⟨b, off + j * 11, none⟩ = some (.int .i64 y.kind) := hcy 0 _ rfl
              have d1 := hcy 1 _ rfl; have d2 := hcy 2 _ rfl; have d3 := hcy 3 _ rfl; have d4 := hcy 4 _ rfl; have d5 := hcy 5 _ rfl
              have d6 := hcy 6 _ rfl; have d7 := hcy 7 _ rfl; have d8 := hcy 8 _ rfl; have d9 := hcy 9 _ rfl; have d10 := hcy 10 _ rfl
              have HY := Lib.hid hy
              have HBW := Lib.hid hBW
              have HCW := Lib.hid hCW
              have HOW := Lib.hid hOW
              clear hg hy hcy hWW hBW hCW hOW c0 c1 c2 c3 c4 c5 c6 c7 c8 c9 c10
              go_still_tail 6, (by kernel_rfl)
              change wpList _ _ _ _ _ (World.drew _)
              have hinv : Inv (went l k) W.drew := HST.out _ _ _ HN.out (HCW.out.trans (CellsKept.drew _)) ((HBW.out.mono (Nat.le_of_lt hsz)).drew)
              have hcal := HCALL.out (went l k) x y _ hinv (List.mem_of_getElem? HX.out) (List.mem_of_getElem? HY.out) (by have := went_len l k; omega)
              have HOD : Hid (W.drew.ownsMap Try.prog 3 (plainElem Try.prog 3) w.heap.size k D) := Lib.hid HOW.out
              have hszd : wr.heap.size ≤ W.drew.heap.size := HBW.out.size
              clear hinv g0 g1 g2 g3 g4 g5 g6 g7 g8 g9 g10 d0 d1 d2 d3 d4 d5 d6 d7 d8 d9 d10
              generalize W.drew = W2 at *
              have HCL := Lib.hid hcal
              clear hcal
              refine wpList_value (by rfl) _ _ _ (by rfl) fid caps (by rfl) (#[x.agg, y.agg] ++ caps) (by unfold En.agg; go_simp) eg ?_
              refine (HCL.out).mono ?_
              rintro e w2 ⟨v2, rfl, hinv2, hmaps, hs2⟩
              refine ⟨v2, rfl, ?_⟩
              clear eg HCL
              go_wp2
              go_roundg (l.length - (k + 1))
              case measure => omega
              case rel =>
                refine ⟨k + 1, D, by go_num, by omega, by omega, Lib.hid ((hmaps.owns HOD.out).mono (Nat.le_succ k)), Lib.hid (agree_keep HX.out ?_ HA.out), Lib.hid ?_, by omega⟩
                · intro h; have := h.1; simp [En.kept, H1.out] at this
                · rw [went_some HX.out (by unfold came; rw [if_pos (by simp [En.sent, H2.out, H3.out])]; exact HF.out) HY.out]
                  exact hinv2
            · have e3 : decide (0 < x.seq) = false := decide_eq_false h3
              have H3 := Lib.hid h3
              clear h3
              go_wp2_with (first | (at_lookup; refine wpList_lookup_own_ok_int _ (by rfl) _ _ 164 (by rfl) 3 3 .i64 law3 Try.underlying164 Try.underlying3 (zero3 _) w.heap.size k D (by rfl) (HO.out.alloc _) _ _ (by rfl) hkey ?_; intro q hat hwq))
              go_roundg (l.length - (k + 1))
              case measure => omega
              case rel =>
                refine ⟨k + 1, D, by go_num, by omega, by omega, Lib.hid ((HO.out.alloc _).mono (Nat.le_succ k)), Lib.hid (agree_keep HX.out ?_ HA.out), Lib.hid ?_, by simp; omega⟩
                · intro h; have := h.1; simp [En.kept, H1.out] at this
                · rw [went_none HX.out (by unfold came; rw [if_neg]; have := H3.out; simp [En.sent]; omega)]
                  exact HST.out _ _ _ HN.out (CellsKept.alloc _ _) ((Below.refl _ _).alloc (Nat.le_of_lt hsz) _)
        · have e2 : (x.kind == 2) = false := by rw [beq_eq_false_iff_ne]; exact h2
          have H2 := Lib.hid h2
          clear h2
          go_wp2_with fail
          go_roundg (l.length - (k + 1))
          case measure => omega
          case rel =>
            refine ⟨k + 1, D, by go_num, by omega, by omega, Lib.hid ((HO.out.alloc _).mono (Nat.le_succ k)), Lib.hid (agree_keep HX.out ?_ HA.out), Lib.hid ?_, by simp; omega⟩
            · intro h; have := h.1; simp [En.kept, H1.out] at this
            · rw [went_none HX.out (by unfold came; rw [if_neg]; simp [En.sent, H2.out])]
              exact HST.out _ _ _ HN.out (CellsKept.alloc _ _) ((Below.refl _ _).alloc (Nat.le_of_lt hsz) _)
    · have hltz : ¬ (k : Int) < (l.length : Int) := by omega
      obtain rfl : k = l.length := by omega
      go_wp2
      (try simp only [Exit.inBlock, Exit.then])
      refine bodyPost_ret (results_none rfl _ _ _) rfl ?_
      exact ⟨_, rfl, HN.out⟩
end Go.Proofs.Ytdoemgccmjddcaa.Sr

/- Differences that are held; the functions that went is handed. -/
namespace Go.Proofs.Ytdoemgccmjddcaa.Sr
open Go.RowKit Go.Maps Wd Li St

def hold (n : Int) : Int := if n < -1152921504606846976 then -1152921504606846976 else if 1152921504606846976 < n then 1152921504606846976 else n
theorem hold_ge (n : Int) : -1152921504606846976 ≤ hold n := by unfold hold; split; omega; split <;> omega
theorem hold_le (n : Int) : hold n ≤ 1152921504606846976 := by unfold hold; split; omega; split <;> omega
def subS (a b : Int) : Int := hold (hold a - hold b)
theorem sub_wf (a b : Int) : (Lit.int .i64 (subS a b)).wf = true := by
  have h1 := hold_ge (hold a - hold b); have h2 := hold_le (hold a - hold b)
  unfold subS
  exact WalkArith.wf_i64 (by omega)

set_option maxRecDepth 20000 in
theorem hold_c (n : Int) (w : World) : Calls Try.prog 145 #[.int .i64 n] w fun e w' => e = .returned (.int .i64 (hold n)) ∧ w = w' := by
  go_enter Try.func145, Try.ntmps145
  by_cases h1 : n < -1152921504606846976
  · have e1 : decide (n < -1152921504606846976) = true := decide_eq_true h1
    go_wp2
    go_ret
    exact ⟨by unfold hold; rw [if_pos h1]; rfl, rfl⟩
  · have e1 : decide (n < -1152921504606846976) = false := decide_eq_false h1
    by_cases h2 : 1152921504606846976 < n
    · have e2 : decide (1152921504606846976 < n) = true := decide_eq_true h2
      go_wp2
      go_ret
      exact ⟨by unfold hold; rw [if_neg (by omega), if_pos h2]; rfl, rfl⟩
    · have e2 : decide (1152921504606846976 < n) = false := decide_eq_false h2
      go_wp2
      go_ret
      exact ⟨by unfold hold; rw [if_neg (by omega), if_neg (by omega)]; rfl, rfl⟩
set_option maxRecDepth 20000 in
theorem most_c (w : World) : Calls Try.prog 158 #[] w fun e w' => e = .returned (.int .i64 1152921504606846976) ∧ w = w' := by
  go_enter Try.func158, Try.ntmps158
  go_wp2
  go_ret
  exact ⟨rfl, rfl⟩
set_option maxRecDepth 20000 in
theorem refhold_c (n : Int) (w : World) : Calls Try.prog 146 #[.int .i64 n] w fun e w' => e = .returned (.int .i64 (hold n)) ∧ w = w' := by
  go_enter Try.func146, Try.ntmps146
  by_cases h2 : 1152921504606846976 < n
  · have e2 : decide (1152921504606846976 < n) = true := decide_eq_true h2
    go_wp2_with (go_at_call 158; refine (most_c _).mono ?_; rintro e w' ⟨rfl, rfl⟩)
    go_ret
    exact ⟨by unfold hold; rw [if_neg (by omega), if_pos h2]; rfl, rfl⟩
  · have e2 : decide (1152921504606846976 < n) = false := decide_eq_false h2
    by_cases h1 : n < -1152921504606846976
    · have e1 : decide (n < -1152921504606846976) = true := decide_eq_true h1
      go_wp2_with (go_at_call 158; refine (most_c _).mono ?_; rintro e w' ⟨rfl, rfl⟩)
      go_ret
      exact ⟨by unfold hold; rw [if_pos h1]; rfl, rfl⟩
    · have e1 : decide (n < -1152921504606846976) = false := decide_eq_false h1
      go_wp2_with (go_at_call 158; refine (most_c _).mono ?_; rintro e w' ⟨rfl, rfl⟩)
      go_ret
      exact ⟨by unfold hold; rw [if_neg (by omega), if_neg (by omega)]; rfl, rfl⟩
set_option maxRecDepth 20000 in
theorem sub_c (a b : Int) (w : World) : Calls Try.prog 111 #[.int .i64 a, .int .i64 b] w fun e w' => e = .returned (.int .i64 (subS a b)) ∧ w = w' := by
  have h1 := hold_ge a; have h2 := hold_le a; have h3 := hold_ge b; have h4 := hold_le b
  unfold subS
  go_enter Try.func111, Try.ntmps111
  go_wp2_with (go_at_call 145; refine (hold_c _ _).mono ?_; rintro e w' ⟨rfl, rfl⟩)
  go_ret
  exact ⟨rfl, rfl⟩
set_option maxRecDepth 20000 in
theorem refsub_c (a b : Int) (w : World) : Calls Try.prog 113 #[.int .i64 a, .int .i64 b] w fun e w' => e = .returned (.int .i64 (subS a b)) ∧ w = w' := by
  have h1 := hold_ge a; have h2 := hold_le a; have h3 := hold_ge b; have h4 := hold_le b
  unfold subS
  go_enter Try.func113, Try.ntmps113
  go_wp2_with (go_at_call 146; refine (refhold_c _ _).mono ?_; rintro e w' ⟨rfl, rfl⟩)
  go_ret
  exact ⟨rfl, rfl⟩

set_option maxRecDepth 20000 in
set_option maxHeartbeats 1000000 in
theorem sameints_c (A A2 : Option Addr) (c c2 : Nat) (xs : List Int) (hx : xs.length ≤ 1048576) (w : World) (h1 : Sl w w.heap.size 1 A xs.length (I xs)) (h2 : Sl w w.heap.size 1 A2 xs.length (I xs)) :
    Calls Try.prog 32 #[.slice A xs.length c, .slice A2 xs.length c2] w fun e w' => e = .returned (.bool true) ∧ Below w.heap.size w w' := by
  have H1 := Lib.hid h1
  have H2 := Lib.hid h2
  clear h1 h2
  go_enter Try.func32, Try.ntmps32
  go_wp2
  go_loopg [5] xs.length (fun kx s5 wr => ∃ k q : Nat, s5 = .int .i64 k ∧ k ≤ xs.length ∧ xs.length - k ≤ kx ∧ wr = w.drewN q)
  case atStart => exact ⟨0, 0, rfl, by omega, by omega, rfl⟩
  case round =>
    obtain ⟨k, q, rfl, hk, hkx, rfl⟩ := hrel
    by_cases hlt : k < xs.length
    · have hltz : (k : Int) < (xs.length : Int) := by omega
      obtain ⟨a, u, rfl, hab, hu, hc⟩ := H1.out.cell1 (k := k) hlt
      obtain ⟨a2, u2, rfl, hab2, hu2, hc2⟩ := H2.out.cell1 (k := k) hlt
      rw [hu] at hu2
      cases hu2
      unfold I at hu
      simp only [List.getElem?_map] at hu
      obtain ⟨x, hx0, rfl⟩ := Option.map_eq_some_iff.1 hu
      clear hu hx0
      go_wp2_with fail
      go_quiet (fail)
      go_wp2
      go_roundg (xs.length - (k + 1))
      case measure => omega
      case rel => exact ⟨k + 1, _, by go_num, by omega, by omega, by first | rfl | exact (World.drewN_drewN _ _ _)⟩
    · have hltz : ¬ (k : Int) < (xs.length : Int) := by omega
      go_wp2
      go_ret
      exact ⟨rfl, below_drewN (Below.refl _ w) q⟩
end Go.Proofs.Ytdoemgccmjddcaa.Sr
