/- Entries of a trace; what went, and by which entry it came. Few, Own, and the document's came. The document's came. stats.went: whatever the function that it calls. Differences that are held; the functions that went is handed. -/
import Derived.Test.YtpchhfhmopmagaaGreatLi
import Derived.Test.YtpchhfhmopmagaaGreatStM
import Derived.BigQuiet
import Derived.Deep.DeepCutAuto
import Derived.Deep.CutBlock
import Derived.Handy
import Derived.Maps.OwnSet
import Derived.StillTailTactics
import Derived.Deep.RegionLaw
import Derived.Deep.RegionWith
set_option linter.unusedVariables false
set_option linter.unusedSimpArgs false
/- Entries of a trace; what went, and by which entry it came. -/
namespace Go.Proofs.YtpchhfhmopmagaaGreat.Sr
open Go.RowKit Wd Li

/-- an entry -/
structure En where
  kind : Int
  raw : ByteArray
  n : Int
  okind : Int
  seq : Int
  leaf : Int
  lender : Int
  reason : Int
  now : Int
  wake : Int
  reply : ByteArray
def En.cells (e : En) : List Value := [.int .i64 e.kind, .string e.raw, .int .i64 e.n, .int .i64 e.okind, .int .i64 e.seq, .int .i64 e.leaf, .int .i64 e.lender, .int .i64 e.reason, .int .i64 e.now, .int .i64 e.wake, .string e.reply]
def En.agg (e : En) : Value := .agg #[.int .i64 e.kind, .string e.raw, .int .i64 e.n, .int .i64 e.okind, .int .i64 e.seq, .int .i64 e.leaf, .int .i64 e.lender, .int .i64 e.reason, .int .i64 e.now, .int .i64 e.wake, .string e.reply]
/-- it was kept -/
def En.kept (x : En) : Bool := x.kind == 1 && x.reason == 0
/-- it was sent -/
def En.sent (x : En) : Bool := x.kind == 2 && decide (0 < x.seq)
/-- the first that was kept under this number, among the first k -/
def first (l : List En) : Nat → Int → Option Nat
  | 0, _ => none
  | k + 1, s => match first l k s with
    | some j => some j
    | none => match l[k]? with
      | some x => if x.kept && x.seq == s then some k else none
      | none => none
/-- the place of the entry by which what went at 'k' came -/
def came (l : List En) (k : Nat) (x : En) : Option Nat := if x.sent then first l k x.seq else none
/-- what went, with that by which it came -/
def went1 (l : List En) (k : Nat) : List (En × En) :=
  match l[k]? with
  | some x => match came l k x with
    | some j => match l[j]? with
      | some y => [(x, y)]
      | none => []
    | none => []
  | none => []
def went (l : List En) : Nat → List (En × En)
  | 0 => []
  | k + 1 => went l k ++ went1 l k
end Go.Proofs.YtpchhfhmopmagaaGreat.Sr

/- Few, Own, and the document's came. -/
namespace Go.Proofs.YtpchhfhmopmagaaGreat.Sr
open Go.RowKit Wd Li

def En.low (x : En) : Bool := decide (x.raw.size ≤ 2100) && decide (x.reply.size ≤ 200)
end Go.Proofs.YtpchhfhmopmagaaGreat.Sr

/- The document's came. -/
namespace Go.Proofs.YtpchhfhmopmagaaGreat.Sr
open Go.RowKit Wd Li

end Go.Proofs.YtpchhfhmopmagaaGreat.Sr

/- stats.went: whatever the function that it calls. -/
namespace Go.Proofs.YtpchhfhmopmagaaGreat.Sr
open Go.RowKit Go.Maps Wd Li

structure CellsKept (w w' : World) : Prop where
  size : w.heap.size ≤ w'.heap.size
  blk : ∀ (k : Nat) cs e fr, w.heap[k]? = some (.cells cs e fr) → w'.heap[k]? = some (.cells cs e fr)
theorem CellsKept.refl (w : World) : CellsKept w w := ⟨Nat.le_refl _, fun _ _ _ _ h => h⟩
theorem CellsKept.trans {a b c : World} (h : CellsKept a b) (k : CellsKept b c) : CellsKept a c := ⟨Nat.le_trans h.size k.size, fun i cs e fr hh => k.blk i cs e fr (h.blk i cs e fr hh)⟩
theorem lt_of_get {w : World} {k : Nat} {o : Obj} (h : w.heap[k]? = some o) : k < w.heap.size := by
  rcases Nat.lt_or_ge k w.heap.size with h1 | h1
  · exact h1
  · rw [Array.getElem?_eq_none h1] at h; cases h
theorem CellsKept.alloc (w : World) (o : Obj) : CellsKept w (w.alloc o) := ⟨by simp, fun k cs e fr h => (Below.heap_alloc w o k (lt_of_get h)).trans h⟩
theorem CellsKept.drew (w : World) : CellsKept w w.drew := ⟨Nat.le_refl _, fun _ _ _ _ h => h⟩
theorem CellsKept.map {w w' : World} {M : Nat} {es clock} (hm : w.heap[M]? = some (.map es clock)) (hg : w.grownBy w' (some M)) : CellsKept w w' :=
  ⟨hg.size, fun k cs e fr h => (hg.block k (lt_of_get h) (fun e => by cases e; rw [hm] at h; cases h)).trans h⟩
def MapsKept (w w' : World) : Prop := ∀ (k : Nat) es clock, w.heap[k]? = some (.map es clock) → w'.heap[k]? = some (.map es clock)
theorem MapsKept.owns {H : Type} {P : Program} {k : TypeId} {R : Value → Option (DataW H × List MemPlace)} {w w' : World} {b n : Nat} {D : DataW H} (h : MapsKept w w') (hown : w.ownsMap P k R b n D) : w'.ownsMap P k R b n D := by
  obtain ⟨es, ck, hb, F, hs, hD⟩ := hown
  exact ⟨es, ck, h _ _ _ hb, F, hs, hD⟩
def i64 (n : Int) : DataW Unit := .lit (.int .i64 n)
/-- the map holds the first places -/
def Agree (D : DataW Unit) (l : List En) (k : Nat) : Prop := ∀ s : Int, Maps.has D (.int .i64 s) = (first l k s).isSome ∧ ∀ j, first l k s = some j → D.atKey (.int .i64 s) (i64 0) = i64 j
theorem first_step {l : List En} {k : Nat} {x : En} (hx : l[k]? = some x) (s : Int) : first l (k + 1) s = match first l k s with | some j => some j | none => if x.kept && x.seq == s then some k else none := by
  show (match first l k s with | some j => some j | none => match l[k]? with | some x => if x.kept && x.seq == s then some k else none | none => none) = _
  rw [hx]
theorem agree_put {D : DataW Unit} {l : List En} {k : Nat} {x : En} (hx : l[k]? = some x) (hk : x.kept = true) (hn : first l k x.seq = none) (hD : IsMap D) (hA : Agree D l k) : Agree (D.put (.int .i64 x.seq) (i64 k)) l (k + 1) := by
  intro s
  have hkey : WideAt.IsKeyLit (.int .i64 x.seq) := trivial
  by_cases e : s = x.seq
  · subst e
    have e1 : first l (k + 1) x.seq = some k := by rw [first_step hx, hn]; simp [hk]
    rw [e1]
    exact ⟨has_put_same hD hkey _, fun j hj => by cases hj; exact atKey_put_same hD hkey _ _⟩
  · have hne : (Lit.int .i64 s) ≠ .int .i64 x.seq := fun h => e (by injection h)
    have e1 : first l (k + 1) s = first l k s := by
      rw [first_step hx]
      cases hf : first l k s with
      | some j => rfl
      | none =>
        simp only
        rw [if_neg]
        intro hq
        simp only [Bool.and_eq_true, beq_iff_eq] at hq
        exact e hq.2.symm
    rw [e1, has_put_other hne, atKey_put_other hne]
    exact hA s
end Go.Proofs.YtpchhfhmopmagaaGreat.Sr

/- Differences that are held; the functions that went is handed. -/
namespace Go.Proofs.YtpchhfhmopmagaaGreat.Sr
open Go.RowKit Go.Maps Wd Li St

def hold (n : Int) : Int := if n < -1152921504606846976 then -1152921504606846976 else if 1152921504606846976 < n then 1152921504606846976 else n
theorem hold_ge (n : Int) : -1152921504606846976 ≤ hold n := by unfold hold; split; omega; split <;> omega
theorem hold_le (n : Int) : hold n ≤ 1152921504606846976 := by unfold hold; split; omega; split <;> omega
def subS (a b : Int) : Int := hold (hold a - hold b)
set_option maxRecDepth 20000 in
theorem hold_c (n : Int) (w : World) : Calls Tryz.prog 139 #[.int .i64 n] w fun e w' => e = .returned (.int .i64 (hold n)) ∧ w = w' := by
  go_enter Tryz.func139, Tryz.ntmps139
  by_cases h1 : n < -1152921504606846976
  · have e1 : decide (n < -1152921504606846976) = true := decide_eq_true h1
    go_wp2
    go_ret
    exact ⟨by unfold hold; rw [if_pos h1]; rfl, rfl⟩
  · have e1 : decide (n < -1152921504606846976) = false := decide_eq_false h1
    by_cases h2 : 1152921504606846976 < n
    · have e2 : decide (1152921504606846976 < n) = true := decide_eq_true h2
      go_wp2
      go_ret
      exact ⟨by unfold hold; rw [if_neg (by omega), if_pos h2]; rfl, rfl⟩
    · have e2 : decide (1152921504606846976 < n) = false := decide_eq_false h2
      go_wp2
      go_ret
      exact ⟨by unfold hold; rw [if_neg (by omega), if_neg (by omega)]; rfl, rfl⟩
set_option maxRecDepth 20000 in
theorem most_c (w : World) : Calls Tryz.prog 211 #[] w fun e w' => e = .returned (.int .i64 1152921504606846976) ∧ w = w' := by
  go_enter Tryz.func211, Tryz.ntmps211
  go_wp2
  go_ret
  exact ⟨rfl, rfl⟩
set_option maxRecDepth 20000 in
theorem refhold_c (n : Int) (w : World) : Calls Tryz.prog 152 #[.int .i64 n] w fun e w' => e = .returned (.int .i64 (hold n)) ∧ w = w' := by
  go_enter Tryz.func152, Tryz.ntmps152
  by_cases h2 : 1152921504606846976 < n
  · have e2 : decide (1152921504606846976 < n) = true := decide_eq_true h2
    go_wp2_with (go_at_call 211; refine (most_c _).mono ?_; rintro e w' ⟨rfl, rfl⟩)
    go_ret
    exact ⟨by unfold hold; rw [if_neg (by omega), if_pos h2]; rfl, rfl⟩
  · have e2 : decide (1152921504606846976 < n) = false := decide_eq_false h2
    by_cases h1 : n < -1152921504606846976
    · have e1 : decide (n < -1152921504606846976) = true := decide_eq_true h1
      go_wp2_with (go_at_call 211; refine (most_c _).mono ?_; rintro e w' ⟨rfl, rfl⟩)
      go_ret
      exact ⟨by unfold hold; rw [if_pos h1]; rfl, rfl⟩
    · have e1 : decide (n < -1152921504606846976) = false := decide_eq_false h1
      go_wp2_with (go_at_call 211; refine (most_c _).mono ?_; rintro e w' ⟨rfl, rfl⟩)
      go_ret
      exact ⟨by unfold hold; rw [if_neg (by omega), if_neg (by omega)]; rfl, rfl⟩
set_option maxRecDepth 20000 in
theorem sub_c (a b : Int) (w : World) : Calls Tryz.prog 138 #[.int .i64 a, .int .i64 b] w fun e w' => e = .returned (.int .i64 (subS a b)) ∧ w = w' := by
  have h1 := hold_ge a; have h2 := hold_le a; have h3 := hold_ge b; have h4 := hold_le b
  unfold subS
  go_enter Tryz.func138, Tryz.ntmps138
  go_wp2_with (go_at_call 139; refine (hold_c _ _).mono ?_; rintro e w' ⟨rfl, rfl⟩)
  go_ret
  exact ⟨rfl, rfl⟩
set_option maxRecDepth 20000 in
theorem refsub_c (a b : Int) (w : World) : Calls Tryz.prog 147 #[.int .i64 a, .int .i64 b] w fun e w' => e = .returned (.int .i64 (subS a b)) ∧ w = w' := by
  have h1 := hold_ge a; have h2 := hold_le a; have h3 := hold_ge b; have h4 := hold_le b
  unfold subS
  go_enter Tryz.func147, Tryz.ntmps147
  go_wp2_with (go_at_call 152; refine (refhold_c _ _).mono ?_; rintro e w' ⟨rfl, rfl⟩)
  go_ret
  exact ⟨rfl, rfl⟩

set_option maxRecDepth 20000 in
set_option maxHeartbeats 1000000 in
theorem sameints_c (A A2 : Option Addr) (c c2 : Nat) (xs : List Int) (hx : xs.length ≤ 1048576) (w : World) (h1 : Sl w w.heap.size 1 A xs.length (I xs)) (h2 : Sl w w.heap.size 1 A2 xs.length (I xs)) :
    Calls Tryz.prog 36 #[.slice A xs.length c, .slice A2 xs.length c2] w fun e w' => e = .returned (.bool true) ∧ Below w.heap.size w w' := by
  have H1 := Lib.hid h1
  have H2 := Lib.hid h2
  clear h1 h2
  go_enter Tryz.func36, Tryz.ntmps36
  go_wp2
  go_loopg [5] xs.length (fun kx s5 wr => ∃ k q : Nat, s5 = .int .i64 k ∧ k ≤ xs.length ∧ xs.length - k ≤ kx ∧ wr = w.drewN q)
  case atStart => exact ⟨0, 0, rfl, by omega, by omega, rfl⟩
  case round =>
    obtain ⟨k, q, rfl, hk, hkx, rfl⟩ := hrel
    by_cases hlt : k < xs.length
    · have hltz : (k : Int) < (xs.length : Int) := by omega
      obtain ⟨a, u, rfl, hab, hu, hc⟩ := H1.out.cell1 (k := k) hlt
      obtain ⟨a2, u2, rfl, hab2, hu2, hc2⟩ := H2.out.cell1 (k := k) hlt
      rw [hu] at hu2
      cases hu2
      unfold I at hu
      simp only [List.getElem?_map] at hu
      obtain ⟨x, hx0, rfl⟩ := Option.map_eq_some_iff.1 hu
      clear hu hx0
      go_wp2_with fail
      go_quiet (fail)
      go_wp2
      go_roundg (xs.length - (k + 1))
      case measure => omega
      case rel => exact ⟨k + 1, _, by go_num, by omega, by omega, by first | rfl | exact (World.drewN_drewN _ _ _)⟩
    · have hltz : ¬ (k : Int) < (xs.length : Int) := by omega
      go_wp2
      go_ret
      exact ⟨rfl, below_drewN (Below.refl _ w) q⟩
end Go.Proofs.YtpchhfhmopmagaaGreat.Sr
