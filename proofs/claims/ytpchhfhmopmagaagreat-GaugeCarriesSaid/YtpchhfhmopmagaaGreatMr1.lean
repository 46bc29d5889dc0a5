/- A range over a map of whole numbers whose rounds store at keys that are there (generic). -/
import Derived.Maps.RangeWalk
import Derived.Test.YtpchhfhmopmagaaGreatMp
set_option linter.unusedVariables false
set_option linter.unusedSimpArgs false
namespace Go.Proofs.YtpchhfhmopmagaaGreat.Mp
open Go.RowKit Go.Maps Go.MapKept Wd
open Go.WideElems (Fit rd rg rd_key rd_val rg_of rd_mk)
open Go.ChangeMaps (setBlock heap_setBlock_same heap_setBlock_other)

theorem born_modify {g : MapEntry → MapEntry} (hg : ∀ e, (g e).born = e.born) : ∀ (l : List MapEntry) (j : Nat), (l.modify j g).map MapEntry.born = l.map MapEntry.born
  | [], _ => by simp
  | x :: l, 0 => by simp [hg]
  | x :: l, j + 1 => by simp [born_modify hg l j]
theorem left_len (seen : Array Nat) (l : List MapEntry) : (l.filter fun e => !seen.contains e.born).length = ((l.map MapEntry.born).filter fun b => !seen.contains b).length := by
  rw [List.filter_map, List.length_map]; rfl
theorem fil_size (p : MapEntry → Bool) (es : Array MapEntry) : (es.filter p).size = (es.toList.filter p).length := by
  cases es; simp
theorem left_modify {g : MapEntry → MapEntry} (hg : ∀ e, (g e).born = e.born) (es : Array MapEntry) (j : Nat) (seen : Array Nat) : (leftOf (es.modify j g) seen).size = (leftOf es seen).size := by
  unfold leftOf
  rw [fil_size, fil_size, Array.toList_modify, left_len, left_len, born_modify hg]
section
variable {H : Type} {P : Program} {k t e : TypeId} {R : Value → Option (DataW H × List MemPlace)} {w : World} {b r n : Nat} {D : DataW H} {left : Lit → Bool} {cnt : Nat}
theorem mem_modify {g : MapEntry → MapEntry} {x : MapEntry} : ∀ {l : List MapEntry} {j : Nat}, x ∈ l.modify j g → x ∈ l ∨ ∃ y, l[j]? = some y ∧ x = g y
  | [], _, h => by simp at h
  | y :: l, 0, h => by
    simp at h
    rcases h with h | h
    · exact .inr ⟨y, rfl, h⟩
    · exact .inl (by simp [h])
  | y :: l, j + 1, h => by
    simp at h
    rcases h with h | h
    · exact .inl (by simp [h])
    · rcases mem_modify h with h | ⟨z, h1, h2⟩
      · exact .inl (by simp [h])
      · exact .inr ⟨z, by simpa using h1, h2⟩
theorem of_modify {g : MapEntry → MapEntry} {x : MapEntry} : ∀ {l : List MapEntry} {j : Nat}, x ∈ l → x ∈ l.modify j g ∨ (l[j]? = some x ∧ g x ∈ l.modify j g)
  | [], _, h => by simp at h
  | y :: l, 0, h => by
    rcases List.mem_cons.1 h with rfl | h
    · exact .inr ⟨rfl, by simp⟩
    · exact .inl (by simp [h])
  | y :: l, j + 1, h => by
    rcases List.mem_cons.1 h with rfl | h
    · exact .inl (by simp)
    · rcases of_modify (g := g) (j := j) h with h | ⟨h1, h2⟩
      · exact .inl (by simp [h])
      · exact .inr ⟨by simpa using h1, by simp [h2]⟩
/-- 'm[k] = v' in the round, at a key that is there -/
theorem ranges_put (h : w.ranges P k R b r n D left cnt) (K : Keyed P k) (ht : P.underlying t = some (.map k e)) (hn : n < maxLen) {key val : Value} {kl : Lit} {d : DataW H} {ps : List MemPlace}
    (hkey : keyOf P k key = some kl) (hv : R val = some (d, ps)) (hh : Maps.has D kl = true) :
    ∃ w', (Instr.mapUpdate t (.map (some b)) key val).run P w = .ok () w' ∧ w'.ranges P k R b r n (D.put kl d) left cnt ∧ w.grownBy w' (some b) := by
  have hne := h.ne
  obtain ⟨es, clock, since, seen, c0, hb, F, hs, rfl, hr, hborn, hcnt, hleft, hkeys, hsc, hsk⟩ := h
  obtain ⟨es', clock', hrun, F', hput, _⟩ := Maps.fit_store (R' := R) K ht hb F (Nat.lt_of_le_of_lt hs hn) (fun _ _ _ _ hz => hz) hkey hv
  rcases K.find w hkey es.toList F.keys with ⟨h1, h2⟩ | ⟨j, e0, h1, h2, h3⟩
  · exfalso
    obtain ⟨p, hp, hpk⟩ := List.any_eq_true.1 hh
    obtain ⟨x, hx, rfl⟩ := List.mem_map.1 (mem_sorted.1 hp)
    obtain ⟨y, hy⟩ := F.reads x hx
    have hk2 := WideAt.sameKey_eq hpk
    rw [rg_of hy] at hk2
    exact h2 x hx (K.inj (rd_key hy) (by rw [hk2]; exact hkey))
  · have hj : es[j]? = some e0 := by simpa using h2
    have hrun2 : (Instr.mapUpdate t (.map (some b)) key val).run P w = .ok () (setBlock w b (.map (es.modify j (fun e' => { e' with key := key, val := val })) clock)) := by
      simp [Instr.mapUpdate, run_underlying ht, MapKept.run_getObj_map hb, K.check w false hkey, h1, hj, h3, K.stays w hkey, MapKept.run_setObj_map _ hb, Result.andThen, setBlock]
    have hw : setBlock w b (.map es' clock') = setBlock w b (.map (es.modify j (fun e' => { e' with key := key, val := val })) clock) := by
      have := hrun.symm.trans hrun2
      injection this
    have hw2 := congrArg (fun u : World => u.heap[b]?) hw
    simp only [heap_setBlock_same hb] at hw2
    injection hw2 with hw2
    injection hw2 with he hc
    subst hc
    rw [he] at F' hput
    refine ⟨_, hrun2, ⟨es.modify j (fun e' => { e' with key := key, val := val }), clock', since, seen, c0, heap_setBlock_same hb _, F', by simpa using hs, ?_, (heap_setBlock_other hb _ hne).trans hr, ?_, ?_, ?_, ?_, hsc, hsk⟩, ?_⟩
    · rw [DataW.put_eq, hput]
    · intro x hx
      rw [Array.toList_modify] at hx
      rcases mem_modify hx with hx | ⟨y, hy, rfl⟩
      · exact hborn x hx
      · exact hborn y (List.mem_of_getElem? hy)
    · rw [left_modify (g := fun e' => { e' with key := key, val := val }) (fun _ => rfl)]; exact hcnt
    · intro x hx
      rw [Array.toList_modify] at hx
      rcases mem_modify hx with hx | ⟨y, hy, rfl⟩
      · exact hleft x hx
      · rw [h2] at hy
        injection hy with hy
        subst hy
        have := hleft e0 (List.mem_of_getElem? h2)
        rw [← this]
        obtain ⟨y, hy⟩ := F.reads e0 (List.mem_of_getElem? h2)
        have hk2 := rd_key hy
        rw [h3, hkey] at hk2
        rw [rg_of hy, rg_of (rd_mk hkey hv)]
        injection hk2 with hk2
        show left kl = left y.1
        rw [hk2]
    · intro kl' hkl'
      obtain ⟨x, hx, hxk⟩ := hkeys kl' hkl'
      rw [Array.toList_modify]
      rcases of_modify (g := fun e' : MapEntry => { e' with key := key, val := val }) (j := j) hx with h | ⟨h4, h5⟩
      · exact ⟨x, h, hxk⟩
      · refine ⟨_, h5, ?_⟩
        rw [h2] at h4
        injection h4 with h4
        subst h4
        obtain ⟨y, hy⟩ := F.reads e0 hx
        have hk2 := rd_key hy
        rw [h3, hkey] at hk2
        injection hk2 with hk2
        rw [rg_of hy] at hxk
        rw [rg_of (rd_mk hkey hv), ← hxk, ← hk2]
    · exact ⟨rfl, rfl, rfl, by simp [setBlock], fun i _ hi => heap_setBlock_other hb _ (fun e => hi (by rw [e]))⟩
end
section
variable {α : Type} {agg : α → Value} {enc : α → DataW Unit} {zero : α} {P : Program} {k e t : TypeId} {w : World} {b r n : Nat} {f : Int → Option α} {left : Int → Bool} {cnt : Nat}
/-- block r ranges over the map at b, which tells f; 'left' tells which keys are still to come -/
def Rg (agg : α → Value) (enc : α → DataW Unit) (zero : α) (P : Program) (k : TypeId) (w : World) (b r n : Nat) (f : Int → Option α) (left : Int → Bool) (cnt : Nat) : Prop :=
  ∃ D lf, w.ranges P k (elem agg enc) b r n D lf cnt ∧ Agree enc zero D f ∧ ∀ id, lf (.int .i64 id) = left id
theorem Rg.at (h : Rg agg enc zero P k w b r n f left cnt) : At agg enc zero P k w b n f := by
  obtain ⟨D, lf, h, hA, _⟩ := h; exact ⟨D, h.owns, hA⟩
theorem Rg.ne (h : Rg agg enc zero P k w b r n f left cnt) : r ≠ b := by obtain ⟨D, lf, h, _⟩ := h; exact h.ne
theorem Rg.lt (h : Rg agg enc zero P k w b r n f left cnt) : r < w.heap.size := by obtain ⟨D, lf, h, _⟩ := h; exact h.lt
theorem Rg.block {w' : World} (h : Rg agg enc zero P k w b r n f left cnt) (hb : w'.heap[b]? = w.heap[b]?) (hr : w'.heap[r]? = w.heap[r]?) : Rg agg enc zero P k w' b r n f left cnt := by
  obtain ⟨D, lf, ⟨es, clock, since, seen, c0, h1, F, hs, hD, h2, rest⟩, hA, hl⟩ := h
  exact ⟨D, lf, ⟨es, clock, since, seen, c0, hb.trans h1, F, hs, hD, hr.trans h2, rest⟩, hA, hl⟩
/-- 'range m' at the operation -/
theorem wpList_range_at {ops : Array Oper} {rest : List Oper} {o : Oper} {a : Act} {Q : Exit → Act → World → Prop} (hg : o.guard = none) (m : Operand) (t : TypeId) (hop : o.op = Op.range t m) (k e : TypeId) (hk : P.underlying k = some (.int .i64)) (ht : P.underlying t = some (.map k e))
    (zero : α) (b n : Nat) (f : Int → Option α) (w : World) (hm : a.eval m = .map (some b)) (h : At agg enc zero P k w b n f)
    (hK : ∀ w' cnt, Rg agg enc zero P k w' b w.heap.size n f (fun id => (f id).isSome) cnt → cnt ≤ n → w.grownBy w' none → w'.heap.size = w.heap.size + 1 → wpList P ops Q rest (a.put o.dst (.pointer (some ⟨w.heap.size, 0, none⟩))) w') :
    wpList P ops Q (o :: rest) a w := by
  obtain ⟨D, hown, hA⟩ := h
  refine wpList_range_own w hg m t hop k e (int_keyed hk) ht (elem agg enc) b n D hm hown ?_
  intro w' h1 h2 h3
  exact hK w' _ ⟨D, _, h1, hA, fun id => (hA id).1⟩ hown.size_le h2 h3
/-- 'next' at the operation -/
theorem wpList_next_at (Q0 : Kind agg enc) {ops : Array Oper} {rest : List Oper} {o : Oper} {a : Act} {Q : Exit → Act → World → Prop} (hg : o.guard = none) (it : Operand) (hop : o.op = Op.next it false) (k : TypeId) (hk : P.underlying k = some (.int .i64))
    (zero : α) (b r n : Nat) (f : Int → Option α) (left : Int → Bool) (cnt : Nat) (w : World) (hit : a.eval it = .pointer (some ⟨r, 0, none⟩)) (h : Rg agg enc zero P k w b r n f left cnt)
    (hDone : (∀ id, left id = false) → wpList P ops Q rest (a.put o.dst (.tuple #[.bool false])) w)
    (hMore : ∀ (id : Int) (c : α) (w' : World) (cnt' : Nat), (Lit.int .i64 id).wf = true → left id = true → f id = some c → Rg agg enc zero P k w' b r n f (fun i => left i && !decide (i = id)) cnt' → cnt' < cnt → w.grownBy w' (some r) → w'.heap.size = w.heap.size →
      (Instr.entry (.pointer (some ⟨r, 0, none⟩))).run P w' = .ok (.tuple #[.int .i64 id, agg c]) w' → wpList P ops Q rest (a.put o.dst (.tuple #[.bool true, .int .i64 id, agg c])) w') :
    wpList P ops Q (o :: rest) a w := by
  obtain ⟨D, lf, hr, hA, hl⟩ := h
  refine wpList_next_ranges w hg it hop k (int_keyed hk) (elem agg enc) (Value.int .i64) agg (fun key kl hkey => by obtain ⟨x, rfl, _⟩ := Maps.keyOf_int_inv hk hkey; exact ⟨x, rfl⟩) (fun v y hv => by obtain ⟨c, rfl, _⟩ := elem_inv hv; exact ⟨c, rfl⟩) b r n D lf cnt hit hr ?_ ?_
  · intro _ h0
    exact hDone (fun id => (hl id).symm.trans (h0 _))
  · intro x c kl y w' cnt' hkey hlk hv hat hrg hlt hgr hsz hen
    obtain ⟨x', ex, rfl, hwx⟩ := Maps.keyOf_int_inv hk hkey
    cases ex
    have hsome : (f x).isSome = true := by rw [← (hA x).1]; exact Maps.has_true_of_atKey hat
    obtain ⟨c', hc'⟩ := Option.isSome_iff_exists.1 hsome
    have h2 := (hA x).2
    rw [hat, hc'] at h2
    rw [elem_mk Q0] at hv
    injection hv with hv
    have hcc : c = c' := Q0.enc _ _ (by rw [← hv] at h2; exact h2)
    subst hcc
    refine hMore x c w' cnt' hwx ((hl x).symm.trans hlk) hc' ⟨D, _, hrg, hA, fun id => ?_⟩ hlt hgr hsz hen
    rw [hl]
    congr 2
    simp [Lit.sameKey]
/-- 'm[id] = x' at the operation, in the round, at a key that is there -/
theorem wpList_put_rg (Q0 : Kind agg enc) {ops : Array Oper} {rest : List Oper} {o : Oper} {a : Act} {Q : Exit → Act → World → Prop}
    (hg : o.guard = none) (m x v : Operand) (t : TypeId) (hop : o.op = Op.mapUpdate t m x v)
    (k e : TypeId) (hk : P.underlying k = some (.int .i64)) (ht : P.underlying t = some (.map k e)) (zero : α) (b r n : Nat) (f : Int → Option α) (left : Int → Bool) (cnt : Nat) (w : World)
    (hm : a.eval m = .map (some b)) (h : Rg agg enc zero P k w b r n f left cnt) (hn : n < 1048576) (id : Int) (y : α) (hx : a.eval x = .int .i64 id) (hv : a.eval v = agg y) (hid : (Lit.int .i64 id).wf = true) (hthere : (f id).isSome = true)
    (hK : ∀ w', Rg agg enc zero P k w' b r n (fun i => if i = id then some y else f i) left cnt → w.grownBy w' (some b) → wpList P ops Q rest (a.put o.dst undef) w') :
    wpList P ops Q (o :: rest) a w := by
  obtain ⟨D, lf, hr, hA, hl⟩ := h
  obtain ⟨w', hrun, h1, h2⟩ := ranges_put hr (int_keyed hk) ht (by unfold maxLen; omega) (keyOf_int_mk hk hid) (elem_mk Q0 y) (by rw [(hA id).1]; exact hthere)
  refine wpList_plain hg fun K' hK' => ?_
  unfold Oper.wp
  simp [execOp, hop, hm, hx, hv, hrun, Result.andThen]
  exact hK' _ _ (hK w' ⟨_, lf, h1, agree_put (owns_isMap' (int_keyed hk) hr.owns) hA, hl⟩ h2)
end
end Go.Proofs.YtpchhfhmopmagaaGreat.Mp
