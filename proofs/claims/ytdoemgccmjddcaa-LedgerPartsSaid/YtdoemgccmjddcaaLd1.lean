/- Ledgers: the books, told plainly; the map of books. -/
import Derived.Test.YtdoemgccmjddcaaSr5
namespace Go.Proofs.Ytdoemgccmjddcaa.Ld
open Go.RowKit Go.Maps Wd Li Sr

structure Note where
  kind : Int
  id : Int
  n : Int
def Note.cells (x : Note) : List Value := [.int .i64 x.kind, .int .i64 x.id, .int .i64 x.n]
theorem note_len (x : Note) : x.cells.length = 3 := rfl
structure Book where
  got : Int
  gotB : Int
  sent : Int
  sentB : Int
  l0 : Int
  l1 : Int
  l2 : Int
  l3 : Int
  l4 : Int
  l5 : Int
def Book.agg (b : Book) : Value := .agg #[.int .i64 b.got, .int .i64 b.gotB, .int .i64 b.sent, .int .i64 b.sentB, .int .i64 b.l0, .int .i64 b.l1, .int .i64 b.l2, .int .i64 b.l3, .int .i64 b.l4, .int .i64 b.l5]
def Book.zero : Book := ⟨0, 0, 0, 0, 0, 0, 0, 0, 0, 0⟩
def lit (n : Int) : DataW Unit := .lit (.int .i64 n)
def encB (b : Book) : DataW Unit := .agg [lit b.got, lit b.gotB, lit b.sent, lit b.sentB, lit b.l0, lit b.l1, lit b.l2, lit b.l3, lit b.l4, lit b.l5]
theorem agg_inj {a b : Book} (h : a.agg = b.agg) : a = b := by
  cases a; cases b
  simp [Book.agg] at h
  simp [h]
theorem encB_inj {a b : Book} (h : encB a = encB b) : a = b := by
  cases a; cases b
  simp [encB, lit] at h
  simp [h]
open Classical in
/-- how an element of the map reads -/
noncomputable def bookElem (v : Value) : Option (DataW Unit × List MemPlace) := if h : ∃ b : Book, v = b.agg then some (encB h.choose, []) else none
theorem bookElem_mk (b : Book) : bookElem b.agg = some (encB b, []) := by
  have h : ∃ c : Book, b.agg = c.agg := ⟨b, rfl⟩
  unfold bookElem
  rw [dif_pos h]
  have := agg_inj h.choose_spec
  rw [← this]
theorem bookElem_inv {v : Value} {z : DataW Unit × List MemPlace} (h : bookElem v = some z) : ∃ b : Book, v = b.agg ∧ z = (encB b, []) := by
  unfold bookElem at h
  split at h
  · rename_i hb
    exact ⟨_, hb.choose_spec, by cases h; rfl⟩
  · cases h

/-- 'm[k]' in a map of books -/
theorem wpList_look_book {P : Program} (w : World) {ops : Array Oper} {rest : List Oper} {o : Oper} {a : Act} {Q : Exit → Act → World → Prop}
    (hg : o.guard = none) (m x : Operand) (t : TypeId) (hop : o.op = Op.lookup t m x false)
    (k e : TypeId) (K : Keyed P k) (ht : P.underlying t = some (.map k e)) (hz : (zeroValue e).run P w = .ok Book.zero.agg w) (b n : Nat) (D : DataW Unit)
    (hm : a.eval m = .map (some b)) (hown : w.ownsMap P k bookElem b n D) (key : Value) (kl : Lit) (hx : a.eval x = key) (hkey : keyOf P k key = some kl) (B : Book) (hat : D.atKey kl (encB Book.zero) = encB B)
    (hK : wpList P ops Q rest (a.put o.dst B.agg) w) :
    wpList P ops Q (o :: rest) a w := by
  refine wpList_plain hg fun K' hK' => ?_
  obtain ⟨v, ps, hrun, hv⟩ := hown.lookup K ht hz (bookElem_mk Book.zero) hkey
  obtain ⟨c, rfl, hc⟩ := bookElem_inv hv
  have hcB : c = B := encB_inj ((congrArg Prod.fst hc).symm.trans hat)
  subst hcB
  unfold Oper.wp
  simp [execOp, hop, hm, hx, hrun, Result.andThen]
  exact hK' _ _ hK

def size (n : Int) : Int := max 0 (min n 2048)
theorem size_ge (n : Int) : 0 ≤ size n := by unfold size; omega
theorem size_le (n : Int) : size n ≤ 2048 := by unfold size; omega
def Note.counts (x : Note) : Bool := x.kind == 0 || x.kind == 1 || (x.kind == 2 && (decide (1 ≤ x.n) && decide (x.n ≤ 5)))
def bump (b : Book) (r : Int) : Book :=
  if r = 1 then { b with l1 := b.l1 + 1 } else if r = 2 then { b with l2 := b.l2 + 1 } else if r = 3 then { b with l3 := b.l3 + 1 } else if r = 4 then { b with l4 := b.l4 + 1 } else if r = 5 then { b with l5 := b.l5 + 1 } else b
def step (b : Book) (x : Note) : Book :=
  if x.kind = 0 then { b with got := b.got + 1, gotB := b.gotB + size x.n } else if x.kind = 1 then { b with sent := b.sent + 1, sentB := b.sentB + size x.n } else bump b x.n
def upd (f : Int → Option Book) (x : Note) : Int → Option Book := if x.counts then fun id => if id = x.id then some (step ((f x.id).getD Book.zero) x) else f id else f
def books (xs : List Note) : Int → Option Book := xs.foldl upd (fun _ => none)
theorem books_succ {xs : List Note} {k : Nat} {x : Note} (h : xs[k]? = some x) : books (xs.take (k + 1)) = upd (books (xs.take k)) x := by
  unfold books; rw [List.take_add_one, h, List.foldl_append]; rfl
/-- no number of a book is below 0 or above m -/
def Book.low (b : Book) (m : Int) : Prop := 0 ≤ b.got ∧ b.got ≤ m ∧ 0 ≤ b.gotB ∧ b.gotB ≤ m ∧ 0 ≤ b.sent ∧ b.sent ≤ m ∧ 0 ≤ b.sentB ∧ b.sentB ≤ m ∧ b.l0 = 0 ∧ 0 ≤ b.l1 ∧ b.l1 ≤ m ∧ 0 ≤ b.l2 ∧ b.l2 ≤ m ∧ 0 ≤ b.l3 ∧ b.l3 ≤ m ∧ 0 ≤ b.l4 ∧ b.l4 ≤ m ∧ 0 ≤ b.l5 ∧ b.l5 ≤ m
theorem zero_low (m : Int) (h : 0 ≤ m) : Book.zero.low m := by simp [Book.low, Book.zero, h]
theorem low_up {b : Book} {m m' : Int} (h : b.low m) (hm : m ≤ m') : b.low m' := by unfold Book.low at *; omega
theorem bump_low {b : Book} {m : Int} (r : Int) (h : b.low m) : (bump b r).low (m + 2048) := by
  unfold bump
  unfold Book.low at *
  split
  · simp only; omega
  · split
    · simp only; omega
    · split
      · simp only; omega
      · split
        · simp only; omega
        · split
          · simp only; omega
          · omega
theorem step_low {b : Book} {m : Int} (x : Note) (h : b.low m) : (step b x).low (m + 2048) := by
  have h1 := size_ge x.n; have h2 := size_le x.n
  unfold step
  split
  · unfold Book.low at *; simp only; omega
  · split
    · unfold Book.low at *; simp only; omega
    · exact bump_low _ h
theorem books_low : ∀ (xs : List Note) (id : Int), (((books xs) id).getD Book.zero).low (2048 * xs.length) := by
  have key : ∀ (xs : List Note) (f : Int → Option Book) (m : Int), 0 ≤ m → (∀ id, ((f id).getD Book.zero).low m) → ∀ id, (((xs.foldl upd f) id).getD Book.zero).low (m + 2048 * xs.length) := by
    intro xs
    induction xs with
    | nil => intro f m hm h id; simpa using h id
    | cons x xs ih =>
      intro f m hm h id
      rw [List.foldl_cons]
      have := ih (upd f x) (m + 2048) (by omega) (fun id => by
        unfold upd
        split
        · simp only
          split
          · exact step_low x (h x.id)
          · exact low_up (h id) (by omega)
        · exact low_up (h id) (by omega)) id
      rw [List.length_cons]
      exact low_up this (by push_cast; omega)
  intro xs id
  have := key xs (fun _ => none) 0 (by omega) (fun id => zero_low 0 (by omega)) id
  unfold books
  simpa using this

/-- the map holds the books -/
def Agree (D : DataW Unit) (f : Int → Option Book) : Prop := ∀ id : Int, Maps.has D (.int .i64 id) = (f id).isSome ∧ D.atKey (.int .i64 id) (encB Book.zero) = encB ((f id).getD Book.zero)
theorem agree_empty : Agree (.map []) (fun _ => none) := fun id => ⟨rfl, rfl⟩
theorem agree_put {D : DataW Unit} {f : Int → Option Book} {id : Int} {b : Book} (hD : IsMap D) (h : Agree D f) : Agree (D.put (.int .i64 id) (encB b)) (fun i => if i = id then some b else f i) := by
  intro i
  have hkey : WideAt.IsKeyLit (.int .i64 id) := trivial
  by_cases e : i = id
  · subst e
    simp only [if_true]
    exact ⟨has_put_same hD hkey _, atKey_put_same hD hkey _ _⟩
  · have hne : (Lit.int .i64 i) ≠ .int .i64 id := fun h => e (by injection h)
    simp only [if_neg e]
    rw [has_put_other hne, atKey_put_other hne]
    exact h i
end Go.Proofs.Ytdoemgccmjddcaa.Ld
