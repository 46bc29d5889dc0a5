/- Maps of whole numbers to elements of whatever shape, told by a function (generic). -/
import Derived.Maps.OwnOps
import Derived.Maps.OwnSet
import Derived.Maps.Views
import Derived.Maps.RangeWalk
import Derived.Sort.KeysCollected
import Derived.Test.YtpchhfhmopmagaaGreatWd
set_option linter.unusedVariables false
set_option linter.unusedSimpArgs false
namespace Go.Proofs.YtpchhfhmopmagaaGreat.Mp
open Go.RowKit Go.Maps Go.MapKept Wd

def litI : Lit → Int
  | .int _ x => x
  | _ => 0
/-- how an element is laid, and how it is told -/
structure Kind {α : Type} (agg : α → Value) (enc : α → DataW Unit) : Prop where
  agg : ∀ a b, agg a = agg b → a = b
  enc : ∀ a b, enc a = enc b → a = b
section
variable {α : Type} {agg : α → Value} {enc : α → DataW Unit}
open Classical in
/-- how an element of the map reads -/
noncomputable def elem (agg : α → Value) (enc : α → DataW Unit) (v : Value) : Option (DataW Unit × List MemPlace) := if h : ∃ b : α, v = agg b then some (enc h.choose, []) else none
theorem elem_mk (Q : Kind agg enc) (b : α) : elem agg enc (agg b) = some (enc b, []) := by
  have h : ∃ c : α, agg b = agg c := ⟨b, rfl⟩
  unfold elem
  rw [dif_pos h]
  have := Q.agg _ _ h.choose_spec
  rw [← this]
theorem elem_inv {v : Value} {z : DataW Unit × List MemPlace} (h : elem agg enc v = some z) : ∃ b : α, v = agg b ∧ z = (enc b, []) := by
  unfold elem at h
  split at h
  · rename_i hb
    exact ⟨_, hb.choose_spec, by cases h; rfl⟩
  · cases h
/-- the map tells f -/
def Agree (enc : α → DataW Unit) (zero : α) (D : DataW Unit) (f : Int → Option α) : Prop := ∀ id : Int, Maps.has D (.int .i64 id) = (f id).isSome ∧ D.atKey (.int .i64 id) (enc zero) = enc ((f id).getD zero)
theorem owns_isMap' {P : Program} {k : TypeId} {w : World} {R : Value → Option (DataW Unit × List MemPlace)} {b n : Nat} {D : DataW Unit} (K : Keyed P k) (h : w.ownsMap P k R b n D) : IsMap D := by
  obtain ⟨es, rfl, _⟩ := h.entries K
  exact ⟨es, rfl⟩
/-- block b is a map of at most n entries that tells f -/
def At (agg : α → Value) (enc : α → DataW Unit) (zero : α) (P : Program) (k : TypeId) (w : World) (b n : Nat) (f : Int → Option α) : Prop := ∃ D, w.ownsMap P k (elem agg enc) b n D ∧ Agree enc zero D f
variable {zero : α} {P : Program} {k e t : TypeId} {w w' : World} {b n : Nat} {f : Int → Option α}
theorem At.lt (h : At agg enc zero P k w b n f) : b < w.heap.size := by obtain ⟨D, h, _⟩ := h; exact h.lt
theorem At.block (h : At agg enc zero P k w b n f) (hb : w'.heap[b]? = w.heap[b]?) : At agg enc zero P k w' b n f := by
  obtain ⟨D, ⟨es, ck, hm, r⟩, hA⟩ := h
  exact ⟨D, ⟨es, ck, hb.trans hm, r⟩, hA⟩
theorem At.below {B : Nat} (h : At agg enc zero P k w b n f) (hb : Below B w w') (hB : b < B) : At agg enc zero P k w' b n f := h.block (hb.block b hB)
theorem At.alloc (h : At agg enc zero P k w b n f) (o : Obj) : At agg enc zero P k (w.alloc o) b n f := h.block (Below.heap_alloc w o b h.lt)
theorem At.grown {row : Option Nat} (h : At agg enc zero P k w b n f) (hg : w.grownBy w' row) (hr : row ≠ some b) : At agg enc zero P k w' b n f := h.block (hg.block b h.lt (Ne.symm hr))
theorem At.more {n' : Nat} (h : At agg enc zero P k w b n f) (hn : n ≤ n') : At agg enc zero P k w b n' f := by
  obtain ⟨D, h, hA⟩ := h
  exact ⟨D, h.mono hn, hA⟩
theorem At.made (w : World) : At agg enc zero P k (w.alloc (.map #[] 0)) w.heap.size 0 (fun _ => none) := ⟨_, World.ownsMap_made w _ _ _, fun _ => ⟨rfl, rfl⟩⟩
theorem At.made_block {b : Nat} (h : w.heap[b]? = some (.map #[] 0)) : At agg enc zero P k w b 0 (fun _ => none) :=
  ⟨.map [], ⟨#[], 0, h, ⟨by simp, stamped_empty 0, by simp⟩, Nat.le_refl _, rfl⟩, fun _ => ⟨rfl, rfl⟩⟩

/-- 'm[id]' -/
theorem At.look (Q : Kind agg enc) (h : At agg enc zero P k w b n f) (hk : P.underlying k = some (.int .i64)) (ht : P.underlying t = some (.map k e)) (hz : (zeroValue e).run P w = .ok (agg zero) w) {id : Int} (hid : (Lit.int .i64 id).wf = true) :
    (Instr.lookup t (.map (some b)) (.int .i64 id) false).run P w = .ok (agg ((f id).getD zero)) w := by
  obtain ⟨D, hown, hA⟩ := h
  obtain ⟨v, ps, hrun, hv⟩ := hown.lookup (int_keyed hk) ht hz (elem_mk Q zero) (keyOf_int_mk hk hid)
  obtain ⟨c, rfl, hc⟩ := elem_inv hv
  have : c = (f id).getD zero := Q.enc _ _ ((congrArg Prod.fst hc).symm.trans (hA id).2)
  rw [← this]; exact hrun
/-- 'v, ok := m[id]' -/
theorem At.look_ok (Q : Kind agg enc) (h : At agg enc zero P k w b n f) (hk : P.underlying k = some (.int .i64)) (ht : P.underlying t = some (.map k e)) (hz : (zeroValue e).run P w = .ok (agg zero) w) {id : Int} (hid : (Lit.int .i64 id).wf = true) :
    (Instr.lookup t (.map (some b)) (.int .i64 id) true).run P w = .ok (.tuple #[agg ((f id).getD zero), .bool (f id).isSome]) w := by
  obtain ⟨D, hown, hA⟩ := h
  obtain ⟨v, ps, hrun, hv⟩ := hown.look_ok (int_keyed hk) ht hz (elem_mk Q zero) (keyOf_int_mk hk hid)
  obtain ⟨c, rfl, hc⟩ := elem_inv hv
  have : c = (f id).getD zero := Q.enc _ _ ((congrArg Prod.fst hc).symm.trans (hA id).2)
  rw [← this, ← (hA id).1]; exact hrun
/-- the keys there are -/
theorem At.keys (h : At agg enc zero P k w b n f) (hk : P.underlying k = some (.int .i64)) (ht : P.underlying t = some (.map k e)) (ty : TypeId) :
    ∃ ks : List Int, ks.Nodup ∧ (∀ id, id ∈ ks ↔ (f id).isSome = true) ∧ ks.length ≤ n ∧ (∀ id ∈ ks, (Lit.int .i64 id).wf = true) ∧ (Builtin.len_ #[t] ty #[.map (some b)]).run P w = .ok (.int .i64 ks.length) w := by
  obtain ⟨D, hown, hA⟩ := h
  have hlen := hown.len ht ty
  have hsz := hown.size_le
  obtain ⟨es, hD, hpw, _⟩ := hown.entries (int_keyed hk)
  obtain ⟨es', hD', hko⟩ := hown.keysOf
  obtain rfl : es = es' := by rw [hD] at hD'; simpa using hD'
  subst hD
  have hkk : ∀ p ∈ es, ∃ x, p.1 = Lit.int .i64 x ∧ (Lit.int .i64 x).wf = true := fun p hp => by
    obtain ⟨v, hv⟩ := hko p hp
    obtain ⟨x, _, hx, hw⟩ := Maps.keyOf_int_inv hk hv
    exact ⟨x, hx, hw⟩
  refine ⟨es.map fun p => litI p.1, ?_, fun id => ?_, ?_, ?_, ?_⟩
  · refine List.pairwise_map.2 (hpw.imp_of_mem fun {p q} hp' hq' hne e => hne ?_)
    obtain ⟨a, ha, _⟩ := hkk p hp'
    obtain ⟨b, hb, _⟩ := hkk q hq'
    rw [ha, hb] at e ⊢
    exact congrArg _ e
  · rw [← (hA id).1, has_eq, List.any_eq_true, List.mem_map]
    constructor
    · rintro ⟨p, hp', rfl⟩
      obtain ⟨a, ha, _⟩ := hkk p hp'
      exact ⟨p, hp', by rw [ha]; simp [Lit.sameKey, litI]⟩
    · rintro ⟨p, hp', hs⟩
      obtain ⟨a, ha, _⟩ := hkk p hp'
      rw [ha] at hs
      exact ⟨p, hp', by rw [ha]; simpa [Lit.sameKey, litI, eq_comm] using hs⟩
  · rw [List.length_map]; exact hsz
  · intro id hid
    obtain ⟨p, hp', rfl⟩ := List.mem_map.1 hid
    obtain ⟨a, ha, hw⟩ := hkk p hp'
    rw [ha]; exact hw
  · rw [List.length_map]; exact hlen
/-- 'len(m)' at the operation -/
theorem wpList_len {ops : Array Oper} {rest : List Oper} {o : Oper} {a : Act} {Q' : Exit → Act → World → Prop} {v : Value} (hg : o.guard = none) (m : Operand) (t : TypeId) (hop : o.op = Op.call { callee := Callee.builtin Builtin.len, args := #[m], argTypes := #[t] })
    (hm : a.eval m = .map (some b)) (hrun : (Builtin.len_ #[t] o.type #[.map (some b)]).run P w = .ok v w) (hK : wpList P ops Q' rest (a.put o.dst v) w) : wpList P ops Q' (o :: rest) a w := by
  refine wpList_plain hg fun K' hK' => ?_
  unfold Oper.wp
  simp [execOp, hop, resolve, invoke, builtin, hm, hrun, Result.andThen]
  exact hK' _ _ hK
/-- no more entries than there are keys -/
theorem At.tight (h : At agg enc zero P k w b n f) (hk : P.underlying k = some (.int .i64)) (S : List Int) (hS : ∀ i, (f i).isSome = true → i ∈ S) : At agg enc zero P k w b S.length f := by
  obtain ⟨D, hown, hA⟩ := h
  obtain ⟨es0, hD0, hpw, _⟩ := hown.entries (int_keyed hk)
  obtain ⟨es', hD', hko⟩ := hown.keysOf
  obtain rfl : es0 = es' := by rw [hD0] at hD'; simpa using hD'
  have hkk : ∀ p ∈ es0, ∃ x, p.1 = Lit.int .i64 x := fun p hp => by
    obtain ⟨v, hv⟩ := hko p hp
    obtain ⟨x, _, hx, hw⟩ := Maps.keyOf_int_inv hk hv
    exact ⟨x, hx⟩
  have hnd : (es0.map fun p => litI p.1).Nodup := by
    refine List.pairwise_map.2 (hpw.imp_of_mem fun {p q} hp' hq' hne e => hne ?_)
    obtain ⟨a, ha⟩ := hkk p hp'
    obtain ⟨b, hb⟩ := hkk q hq'
    rw [ha, hb] at e ⊢
    exact congrArg _ e
  have hsub : (es0.map fun p => litI p.1) ⊆ S := fun i hi => by
    obtain ⟨p, hp', rfl⟩ := List.mem_map.1 hi
    refine hS _ ?_
    rw [← (hA _).1, hD0, has_eq, List.any_eq_true]
    obtain ⟨a, ha⟩ := hkk p hp'
    exact ⟨p, hp', by rw [ha]; simp [Lit.sameKey, litI]⟩
  have hle : ∀ {zs S : List Int}, zs.Nodup → zs ⊆ S → zs.length ≤ S.length := by
    intro zs
    induction zs with
    | nil => intros; simp
    | cons z zs ih =>
      intro S hn hs
      have h' := List.nodup_cons.1 hn
      have hz : z ∈ S := hs List.mem_cons_self
      have h3 := ih (S := S.erase z) h'.2 (fun y hy => (List.mem_erase_of_ne (fun e : y = z => h'.1 (e ▸ hy))).2 (hs (List.mem_cons_of_mem _ hy)))
      rw [List.length_erase_of_mem hz] at h3
      have := List.length_pos_of_mem hz
      simp; omega
  have hlen := hle hnd hsub
  rw [List.length_map] at hlen
  obtain ⟨es, clock, hb, F, hs, hD⟩ := hown
  have hsz : es.size = es0.length := by
    rw [hD0] at hD
    injection hD with hD
    rw [hD, length_sorted]; simp
  exact ⟨D, ⟨es, clock, hb, F, by omega, hD⟩, hA⟩
theorem agree_put {D : DataW Unit} {id : Int} {x : α} (hD : IsMap D) (h : Agree enc zero D f) : Agree enc zero (D.put (.int .i64 id) (enc x)) (fun i => if i = id then some x else f i) := by
  intro i
  have hkey : WideAt.IsKeyLit (.int .i64 id) := trivial
  by_cases e : i = id
  · subst e
    simp only [if_true]
    exact ⟨has_put_same hD hkey _, atKey_put_same hD hkey _ _⟩
  · have hne : (Lit.int .i64 i) ≠ .int .i64 id := fun h => e (by injection h)
    simp only [if_neg e]
    rw [has_put_other hne, atKey_put_other hne]
    exact h i
/-- 'm[id] = x' at the operation -/
theorem wpList_put (Q : Kind agg enc) {ops : Array Oper} {rest : List Oper} {o : Oper} {a : Act} {Q' : Exit → Act → World → Prop}
    (hg : o.guard = none) (m x v : Operand) (t : TypeId) (hop : o.op = Op.mapUpdate t m x v)
    (k e : TypeId) (hk : P.underlying k = some (.int .i64)) (ht : P.underlying t = some (.map k e)) (zero : α) (b n : Nat) (f : Int → Option α) (w : World)
    (hm : a.eval m = .map (some b)) (h : At agg enc zero P k w b n f) (hn : n < 1048576) (id : Int) (y : α) (hx : a.eval x = .int .i64 id) (hv : a.eval v = agg y) (hid : (Lit.int .i64 id).wf = true)
    (hK : ∀ w', At agg enc zero P k w' b (n + 1) (fun i => if i = id then some y else f i) → w.grownBy w' (some b) → wpList P ops Q' rest (a.put o.dst undef) w') :
    wpList P ops Q' (o :: rest) a w := by
  obtain ⟨D, hown, hA⟩ := h
  refine wpList_mapUpdate_own w hg m x v t hop k e (int_keyed hk) ht (elem agg enc) b n D hm hown (by unfold maxLen; omega) _ _ _ hx hv (keyOf_int_mk hk hid) _ [] (elem_mk Q y) ?_
  intro w' hown' hg'
  exact hK w' ⟨_, hown', agree_put (owns_isMap' (int_keyed hk) hown) hA⟩ hg'
end
/-- a slice of the call's own: its block (if there is one), length, capacity -/
structure Sv where
  g : Option Nat
  n : Nat
  c : Nat
def Sv.val (s : Sv) : Value := .slice (s.g.map fun b => ⟨b, 0, none⟩) s.n s.c
def Sv.nil : Sv := ⟨none, 0, 0⟩
def natL (n : Nat) : DataW Unit := .lit (.int .i64 (n : Int))
def Sv.enc (s : Sv) : DataW Unit := .agg [match s.g with | none => .nil | some b => natL b, natL s.n, natL s.c]
theorem sv_kind : Kind Sv.val Sv.enc where
  agg a b h := by
    obtain ⟨g, n, c⟩ := a; obtain ⟨g', n', c'⟩ := b
    unfold Sv.val at h
    obtain ⟨h1, h2, h3⟩ := Value.slice.inj h
    cases g <;> cases g' <;> simp_all
  enc a b h := by
    obtain ⟨g, n, c⟩ := a; obtain ⟨g', n', c'⟩ := b
    cases g <;> cases g' <;> simp [Sv.enc, natL] at h <;> first | (simp; done) | (simp; omega)
theorem own_val (s : Sv) : s.val.ownBlock = s.g := by obtain ⟨g, n, c⟩ := s; cases g <;> rfl
/-- whole numbers as elements -/
def iv (n : Int) : Value := .int .i64 n
def ie (n : Int) : DataW Unit := .lit (.int .i64 n)
theorem int_kind : Kind iv ie where
  agg a b h := by simpa [iv] using h
  enc a b h := by simpa [ie] using h
end Go.Proofs.YtpchhfhmopmagaaGreat.Mp
