/- Entries of a trace; what went, and by which entry it came. Few, Own, and the document's came. The document's came. stats.went: whatever the function that it calls. Differences that are held; the functions that went is handed. -/
import Derived.Test.YtdankjhjmaehiaaLi
import Derived.Test.YtdankjhjmaehiaaStM
import Derived.BigQuiet
import Derived.Deep.DeepCutAuto
import Derived.Deep.CutBlock
import Derived.Handy
import Derived.Maps.OwnSet
import Derived.StillTailTactics
import Derived.Deep.RegionLaw
import Derived.Deep.RegionWith
/- Entries of a trace; what went, and by which entry it came. -/
namespace Go.Proofs.Ytdankjhjmaehiaa.Sr
open Go.RowKit Wd Li

/-- an entry -/
structure En where
  kind : Int
  raw : ByteArray
  n : Int
  okind : Int
  seq : Int
  leaf : Int
  lender : Int
  reason : Int
  now : Int
  wake : Int
  reply : ByteArray
def En.cells (e : En) : List Value := [.int .i64 e.kind, .string e.raw, .int .i64 e.n, .int .i64 e.okind, .int .i64 e.seq, .int .i64 e.leaf, .int .i64 e.lender, .int .i64 e.reason, .int .i64 e.now, .int .i64 e.wake, .string e.reply]
def En.agg (e : En) : Value := .agg #[.int .i64 e.kind, .string e.raw, .int .i64 e.n, .int .i64 e.okind, .int .i64 e.seq, .int .i64 e.leaf, .int .i64 e.lender, .int .i64 e.reason, .int .i64 e.now, .int .i64 e.wake, .string e.reply]
theorem en_len (x : En) : x.cells.length = 11 := rfl
theorem en_one (x : En) : ∀ u ∈ x.cells, u.oneCell' = true := by
  intro u hu; simp [En.cells] at hu
  rcases hu with rfl | rfl | rfl | rfl | rfl | rfl | rfl | rfl | rfl | rfl | rfl <;> rfl
abbrev Ls (n₀ : Nat) (W : World) (sv : Value) (l : List En) : Prop := Lies 11 En.cells n₀ W sv l

/-- it was kept -/
def En.kept (x : En) : Bool := x.kind == 1 && x.reason == 0
/-- it was sent -/
def En.sent (x : En) : Bool := x.kind == 2 && decide (0 < x.seq)
/-- the first that was kept under this number, among the first k -/
def first (l : List En) : Nat → Int → Option Nat
  | 0, _ => none
  | k + 1, s => match first l k s with
    | some j => some j
    | none => match l[k]? with
      | some x => if x.kept && x.seq == s then some k else none
      | none => none
/-- the place of the entry by which what went at 'k' came -/
def came (l : List En) (k : Nat) (x : En) : Option Nat := if x.sent then first l k x.seq else none
/-- what went, with that by which it came -/
def went1 (l : List En) (k : Nat) : List (En × En) :=
  match l[k]? with
  | some x => match came l k x with
    | some j => match l[j]? with
      | some y => [(x, y)]
      | none => []
    | none => []
  | none => []
def went (l : List En) : Nat → List (En × En)
  | 0 => []
  | k + 1 => went l k ++ went1 l k
theorem first_lt {l : List En} {k j : Nat} {s : Int} (h : first l k s = some j) : j < k ∧ ∃ y, l[j]? = some y ∧ y.kept = true ∧ y.seq = s := by
  induction k with
  | zero => cases h
  | succ k ih =>
    unfold first at h
    cases hf : first l k s with
    | some i =>
      rw [hf] at h
      cases h
      obtain ⟨h1, h2⟩ := ih hf
      exact ⟨by omega, h2⟩
    | none =>
      rw [hf] at h
      cases hx : l[k]? with
      | none => rw [hx] at h; cases h
      | some x =>
        rw [hx] at h
        simp only at h
        split at h
        · rename_i hq
          simp only [Bool.and_eq_true, beq_iff_eq] at hq
          cases h
          exact ⟨by omega, x, hx, hq.1, hq.2⟩
        · cases h
theorem first_none {l : List En} {k : Nat} {s : Int} (h : first l k s = none) : ∀ (j : Nat) (y : En), j < k → l[j]? = some y → ¬ (y.kept = true ∧ y.seq = s) := by
  induction k with
  | zero => intro j y hj; omega
  | succ k ih =>
    unfold first at h
    cases hf : first l k s with
    | some i => rw [hf] at h; cases h
    | none =>
      rw [hf] at h
      intro j y hj hy hq
      by_cases e : j = k
      · subst e
        rw [hy] at h
        simp [hq.1, hq.2] at h
      · exact ih hf j y (by omega) hy hq
theorem first_is {l : List En} {k j : Nat} {s : Int} {y : En} (hj : j < k) (hy : l[j]? = some y) (hq : y.kept = true ∧ y.seq = s) (hno : ∀ (i : Nat) (u : En), i < j → l[i]? = some u → ¬ (u.kept = true ∧ u.seq = s)) : first l k s = some j := by
  cases h : first l k s with
  | none => exact absurd hq (first_none h j y hj hy)
  | some i =>
    obtain ⟨h1, u, hu, hk, hs⟩ := first_lt h
    by_cases e : i = j
    · rw [e]
    · by_cases hlt : i < j
      · exact absurd ⟨hk, hs⟩ (hno i u hlt hu)
      · exfalso
        have : ∀ m, m ≤ i → j < m → ∃ q, q ≤ j ∧ first l m s = some q := by
          intro m
          induction m with
          | zero => intro _ h; omega
          | succ m ih =>
            intro hm hjm
            unfold first
            by_cases e2 : j < m
            · obtain ⟨q, h1, h2⟩ := ih (by omega) e2
              rw [h2]; exact ⟨q, h1, rfl⟩
            · obtain rfl : j = m := by omega
              cases hf : first l j s with
              | some q => exact ⟨q, by have := (first_lt hf).1; omega, rfl⟩
              | none => simp only [hy, hq.1, hq.2]; exact ⟨j, Nat.le_refl _, by simp⟩
        have mono : ∀ m q, first l m s = some q → ∀ p, m ≤ p → first l p s = some q := by
          intro m q hm p hp
          induction p with
          | zero => obtain rfl : m = 0 := by omega
                    exact hm
          | succ p ih =>
            by_cases e3 : m = p + 1
            · rw [← e3]; exact hm
            · unfold first; rw [ih (by omega)]
        obtain ⟨q, h2, h3⟩ := this i (Nat.le_refl _) (by omega)
        have := mono i q h3 k (by omega)
        rw [h] at this
        cases this
        omega
end Go.Proofs.Ytdankjhjmaehiaa.Sr

/- Few, Own, and the document's came. -/
namespace Go.Proofs.Ytdankjhjmaehiaa.Sr
open Go.RowKit Wd Li

def En.low (x : En) : Bool := decide (x.raw.size ≤ 2100) && decide (x.reply.size ≤ 200)
def fewB (l : List En) : Bool := decide (l.length ≤ 60) && l.all En.low
theorem few_long {l : List En} (h : 60 < l.length) : fewB l = false := by unfold fewB; rw [decide_eq_false (by omega)]; rfl
theorem few_at {l : List En} {k : Nat} {x : En} (hx : l[k]? = some x) (h : x.low = false) : fewB l = false := by
  unfold fewB
  rw [Bool.and_eq_false_iff]
  right
  rw [List.all_eq_false]
  exact ⟨x, List.mem_of_getElem? hx, by rw [h]; decide⟩
theorem few_all {l : List En} (h : ¬ 60 < l.length) (ha : ∀ (j : Nat) (x : En), l[j]? = some x → x.low = true) : fewB l = true := by
  unfold fewB
  rw [decide_eq_true (by omega), Bool.true_and, List.all_eq_true]
  intro x hx
  obtain ⟨j, hj⟩ := List.getElem?_of_mem hx
  exact ha j x hj
theorem few_is {l : List En} (h : fewB l = true) : l.length ≤ 60 ∧ ∀ (j : Nat) (x : En), l[j]? = some x → x.raw.size ≤ 2100 := by
  unfold fewB at h
  rw [Bool.and_eq_true, decide_eq_true_eq, List.all_eq_true] at h
  refine ⟨h.1, fun j x hx => ?_⟩
  have := h.2 x (List.mem_of_getElem? hx)
  unfold En.low at this
  rw [Bool.and_eq_true, decide_eq_true_eq] at this
  exact this.1
def FewOk (l : List En) (w : World) (e : Ending) (w' : World) : Prop := e = .returned (.bool (fewB l)) ∧ Below w.heap.size w w'
end Go.Proofs.Ytdankjhjmaehiaa.Sr

/- The document's came. -/
namespace Go.Proofs.Ytdankjhjmaehiaa.Sr
open Go.RowKit Wd Li

def idx : Option Nat → Int
  | some k => k
  | none => -1
def CameOk (i : Int) (w : World) (e : Ending) (w' : World) : Prop := ∃ q, e = .returned (.int .i64 i) ∧ w' = w.drewN q

end Go.Proofs.Ytdankjhjmaehiaa.Sr

/- stats.went: whatever the function that it calls. -/
namespace Go.Proofs.Ytdankjhjmaehiaa.Sr
open Go.RowKit Go.Maps Wd Li

structure CellsKept (w w' : World) : Prop where
  size : w.heap.size ≤ w'.heap.size
  blk : ∀ (k : Nat) cs e fr, w.heap[k]? = some (.cells cs e fr) → w'.heap[k]? = some (.cells cs e fr)
theorem CellsKept.refl (w : World) : CellsKept w w := ⟨Nat.le_refl _, fun _ _ _ _ h => h⟩
theorem CellsKept.trans {a b c : World} (h : CellsKept a b) (k : CellsKept b c) : CellsKept a c := ⟨Nat.le_trans h.size k.size, fun i cs e fr hh => k.blk i cs e fr (h.blk i cs e fr hh)⟩
theorem lt_of_get {w : World} {k : Nat} {o : Obj} (h : w.heap[k]? = some o) : k < w.heap.size := by
  rcases Nat.lt_or_ge k w.heap.size with h1 | h1
  · exact h1
  · rw [Array.getElem?_eq_none h1] at h; cases h
theorem CellsKept.alloc (w : World) (o : Obj) : CellsKept w (w.alloc o) := ⟨by simp, fun k cs e fr h => (Below.heap_alloc w o k (lt_of_get h)).trans h⟩
theorem CellsKept.drew (w : World) : CellsKept w w.drew := ⟨Nat.le_refl _, fun _ _ _ _ h => h⟩
theorem CellsKept.map {w w' : World} {M : Nat} {es clock} (hm : w.heap[M]? = some (.map es clock)) (hg : w.grownBy w' (some M)) : CellsKept w w' :=
  ⟨hg.size, fun k cs e fr h => (hg.block k (lt_of_get h) (fun e => by cases e; rw [hm] at h; cases h)).trans h⟩
def MapsKept (w w' : World) : Prop := ∀ (k : Nat) es clock, w.heap[k]? = some (.map es clock) → w'.heap[k]? = some (.map es clock)
theorem MapsKept.owns {H : Type} {P : Program} {k : TypeId} {R : Value → Option (DataW H × List MemPlace)} {w w' : World} {b n : Nat} {D : DataW H} (h : MapsKept w w') (hown : w.ownsMap P k R b n D) : w'.ownsMap P k R b n D := by
  obtain ⟨es, ck, hb, F, hs, hD⟩ := hown
  exact ⟨es, ck, h _ _ _ hb, F, hs, hD⟩
theorem owns_is_map {H : Type} {P : Program} {k : TypeId} {R : Value → Option (DataW H × List MemPlace)} {w : World} {b n : Nat} {D : DataW H} (hown : w.ownsMap P k R b n D) : ∃ es ck, w.heap[b]? = some (.map es ck) := by
  obtain ⟨es, ck, hb, F, hs, hD⟩ := hown
  exact ⟨es, ck, hb⟩
theorem owns_isMap {H : Type} {P : Program} {k : TypeId} {R : Value → Option (DataW H × List MemPlace)} {w : World} {b n : Nat} {D : DataW H} (K : Keyed P k) (hown : w.ownsMap P k R b n D) : IsMap D := (hown.tidy K).isMap

def i64 (n : Int) : DataW Unit := .lit (.int .i64 n)
/-- the map holds the first places -/
def Agree (D : DataW Unit) (l : List En) (k : Nat) : Prop := ∀ s : Int, Maps.has D (.int .i64 s) = (first l k s).isSome ∧ ∀ j, first l k s = some j → D.atKey (.int .i64 s) (i64 0) = i64 j
theorem first_step {l : List En} {k : Nat} {x : En} (hx : l[k]? = some x) (s : Int) : first l (k + 1) s = match first l k s with | some j => some j | none => if x.kept && x.seq == s then some k else none := by
  show (match first l k s with | some j => some j | none => match l[k]? with | some x => if x.kept && x.seq == s then some k else none | none => none) = _
  rw [hx]
theorem agree_keep {D : DataW Unit} {l : List En} {k : Nat} {x : En} (hx : l[k]? = some x) (h : ¬ (x.kept = true ∧ first l k x.seq = none)) (hA : Agree D l k) : Agree D l (k + 1) := by
  intro s
  have e : first l (k + 1) s = first l k s := by
    rw [first_step hx]
    cases hf : first l k s with
    | some j => rfl
    | none =>
      simp only
      rw [if_neg]
      intro hq
      simp only [Bool.and_eq_true, beq_iff_eq] at hq
      exact h ⟨hq.1, by rw [hq.2]; exact hf⟩
  rw [e]; exact hA s
theorem agree_put {D : DataW Unit} {l : List En} {k : Nat} {x : En} (hx : l[k]? = some x) (hk : x.kept = true) (hn : first l k x.seq = none) (hD : IsMap D) (hA : Agree D l k) : Agree (D.put (.int .i64 x.seq) (i64 k)) l (k + 1) := by
  intro s
  have hkey : WideAt.IsKeyLit (.int .i64 x.seq) := trivial
  by_cases e : s = x.seq
  · subst e
    have e1 : first l (k + 1) x.seq = some k := by rw [first_step hx, hn]; simp [hk]
    rw [e1]
    exact ⟨has_put_same hD hkey _, fun j hj => by cases hj; exact atKey_put_same hD hkey _ _⟩
  · have hne : (Lit.int .i64 s) ≠ .int .i64 x.seq := fun h => e (by injection h)
    have e1 : first l (k + 1) s = first l k s := by
      rw [first_step hx]
      cases hf : first l k s with
      | some j => rfl
      | none =>
        simp only
        rw [if_neg]
        intro hq
        simp only [Bool.and_eq_true, beq_iff_eq] at hq
        exact e hq.2.symm
    rw [e1, has_put_other hne, atKey_put_other hne]
    exact hA s
theorem went_none {l : List En} {k : Nat} {x : En} (hx : l[k]? = some x) (h : came l k x = none) : went l (k + 1) = went l k := by
  show went l k ++ went1 l k = _
  unfold went1; rw [hx]; simp only [h, List.append_nil]
theorem went_some {l : List En} {k j : Nat} {x y : En} (hx : l[k]? = some x) (h : came l k x = some j) (hy : l[j]? = some y) : went l (k + 1) = went l k ++ [(x, y)] := by
  show went l k ++ went1 l k = _
  unfold went1; rw [hx]; simp only [h, hy]
theorem went_len (l : List En) : ∀ k, (went l k).length ≤ k
  | 0 => Nat.le_refl _
  | k + 1 => by
    have := went_len l k
    show (went l k ++ went1 l k).length ≤ k + 1
    have h2 : (went1 l k).length ≤ 1 := by
      unfold went1
      split
      · split
        · split <;> simp
        · simp
      · simp
    rw [List.length_append]
    omega
theorem law3 : Keyed Try.prog 3 := int_keyed Try.underlying3
theorem zero3 (w : World) : (zeroValue 3).run Try.prog w = .ok (.int .i64 0) w := by kernel_rfl

/-- a call of a function value that is known -/
theorem wpList_value {P : Program} {ops : Array Oper} {rest : List Oper} {o : Oper} {a : Act} {Q : Exit → Act → World → Prop} {w : World} (hgd : o.guard = none) (t : Operand) (xs : Array Operand) (ts : Array TypeId)
    (ho : o.op = .call { callee := .value t, args := xs, argTypes := ts }) (fid : FuncId) (caps : Array Value) (hv : a.eval t = .func (.func fid) #[] caps) (args : Array Value) (hargs : xs.map a.eval ++ caps = args)
    (eg : ∀ args w, (callFunc fid args).run P w = .ok (.enter fid args) w)
    (h : Calls P fid args w fun e w' => ∃ v, e = .returned v ∧ wpList P ops Q rest (a.put o.dst v) w') : wpList P ops Q (o :: rest) a w := by
  refine wpList_plain hgd fun K hK => ?_
  have hrun : (execOp a.eval o).run P w = .ok (.enter fid args) w := by
    subst hargs
    simp [execOp, ho, resolve, hv, invoke, eg, Deferred.ofValue]
  unfold Oper.wp
  rw [hrun]
  refine Calls.mono h ?_
  rintro e w' ⟨v, rfl, hv⟩
  exact hK _ _ hv

def WentOk (Inv : List (En × En) → World → Prop) (ps : List (En × En)) (e : Ending) (w' : World) : Prop := ∃ v, e = .returned v ∧ Inv ps w'

end Go.Proofs.Ytdankjhjmaehiaa.Sr

/- Differences that are held; the functions that went is handed. -/
namespace Go.Proofs.Ytdankjhjmaehiaa.Sr
open Go.RowKit Go.Maps Wd Li St

def hold (n : Int) : Int := if n < -1152921504606846976 then -1152921504606846976 else if 1152921504606846976 < n then 1152921504606846976 else n
theorem hold_ge (n : Int) : -1152921504606846976 ≤ hold n := by unfold hold; split; omega; split <;> omega
theorem hold_le (n : Int) : hold n ≤ 1152921504606846976 := by unfold hold; split; omega; split <;> omega
def subS (a b : Int) : Int := hold (hold a - hold b)
theorem sub_wf (a b : Int) : (Lit.int .i64 (subS a b)).wf = true := by
  have h1 := hold_ge (hold a - hold b); have h2 := hold_le (hold a - hold b)
  unfold subS
  exact WalkArith.wf_i64 (by omega)

set_option maxRecDepth 20000 in
theorem hold_c (n : Int) (w : World) : Calls Try.prog 84 #[.int .i64 n] w fun e w' => e = .returned (.int .i64 (hold n)) ∧ w = w' := by
  go_enter Try.func84, Try.ntmps84
  by_cases h1 : n < -1152921504606846976
  · have e1 : decide (n < -1152921504606846976) = true := decide_eq_true h1
    go_wp2
    go_ret
    exact ⟨by unfold hold; rw [if_pos h1]; rfl, rfl⟩
  · have e1 : decide (n < -1152921504606846976) = false := decide_eq_false h1
    by_cases h2 : 1152921504606846976 < n
    · have e2 : decide (1152921504606846976 < n) = true := decide_eq_true h2
      go_wp2
      go_ret
      exact ⟨by unfold hold; rw [if_neg (by omega), if_pos h2]; rfl, rfl⟩
    · have e2 : decide (1152921504606846976 < n) = false := decide_eq_false h2
      go_wp2
      go_ret
      exact ⟨by unfold hold; rw [if_neg (by omega), if_neg (by omega)]; rfl, rfl⟩
set_option maxRecDepth 20000 in
theorem most_c (w : World) : Calls Try.prog 92 #[] w fun e w' => e = .returned (.int .i64 1152921504606846976) ∧ w = w' := by
  go_enter Try.func92, Try.ntmps92
  go_wp2
  go_ret
  exact ⟨rfl, rfl⟩
set_option maxRecDepth 20000 in
theorem refhold_c (n : Int) (w : World) : Calls Try.prog 76 #[.int .i64 n] w fun e w' => e = .returned (.int .i64 (hold n)) ∧ w = w' := by
  go_enter Try.func76, Try.ntmps76
  by_cases h2 : 1152921504606846976 < n
  · have e2 : decide (1152921504606846976 < n) = true := decide_eq_true h2
    go_wp2_with (go_at_call 92; refine (most_c _).mono ?_; rintro e w' ⟨rfl, rfl⟩)
    go_ret
    exact ⟨by unfold hold; rw [if_neg (by omega), if_pos h2]; rfl, rfl⟩
  · have e2 : decide (1152921504606846976 < n) = false := decide_eq_false h2
    by_cases h1 : n < -1152921504606846976
    · have e1 : decide (n < -1152921504606846976) = true := decide_eq_true h1
      go_wp2_with (go_at_call 92; refine (most_c _).mono ?_; rintro e w' ⟨rfl, rfl⟩)
      go_ret
      exact ⟨by unfold hold; rw [if_pos h1]; rfl, rfl⟩
    · have e1 : decide (n < -1152921504606846976) = false := decide_eq_false h1
      go_wp2_with (go_at_call 92; refine (most_c _).mono ?_; rintro e w' ⟨rfl, rfl⟩)
      go_ret
      exact ⟨by unfold hold; rw [if_neg (by omega), if_neg (by omega)]; rfl, rfl⟩
end Go.Proofs.Ytdankjhjmaehiaa.Sr
