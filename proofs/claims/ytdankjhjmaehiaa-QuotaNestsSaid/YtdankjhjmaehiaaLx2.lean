/- A region whose order is open, walked once: the writers in a chain of steps (each waits for the one ahead, through other operations too). -/
import Derived.Test.YtdankjhjmaehiaaLx
namespace Go.Proofs.Ytdankjhjmaehiaa.Lx
open Go.RowKit Rel
section
variable {P : Program} {ops : Array Oper} {md : Region.Mode} {C : World → Prop} {W : Nat → Bool}

/-- j waits for i, through so many operations at most -/
def reachB (md : Region.Mode) (ops : Array Oper) : Nat → Nat → Nat → Bool
  | 0, _, _ => false
  | f + 1, j, i => match ops[j]? with
    | none => false
    | some o => o.after.any (fun e => Region.binds md e && (e.on == i || reachB md ops f e.on i))
/-- each waits for the one ahead -/
def chainW (md : Region.Mode) (ops : Array Oper) : List Nat → Bool
  | [] => true
  | [_] => true
  | a :: b :: l => reachB md ops 5 b a && chainW md ops (b :: l)
theorem reach_listed {n : Nat} {listed : Array Bool} (inv : HeadInv md ops n listed) : ∀ (f j i : Nat) (o : Oper), ops[j]? = some o → (∀ e ∈ o.after, Region.binds md e = true → listed.getD e.on false = true) → reachB md ops f j i = true → listed.getD i false = true
  | 0, _, _, _, _, _, h => by cases h
  | f + 1, j, i, o, ho, hall, h => by
    unfold reachB at h
    rw [ho] at h
    obtain ⟨e, he, h⟩ := Array.any_eq_true'.1 h
    simp only [Bool.and_eq_true, Bool.or_eq_true, beq_iff_eq] at h
    obtain ⟨hb, h | h⟩ := h
    · have := hall _ he hb
      rw [h] at this; exact this
    · have hl := hall _ he hb
      cases ho2 : ops[e.on]? with
      | none => cases f with
        | zero => cases h
        | succ f => unfold reachB at h; rw [ho2] at h; cases h
      | some o2 => exact reach_listed inv f _ i o2 ho2 (inv.closed _ _ ho2 hl) h
theorem chain_head {n : Nat} {listed : Array Bool} (inv : HeadInv md ops n listed) : ∀ (l : List Nat) (a : Nat), chainW md ops (a :: l) = true → ∀ x ∈ l, (∃ o, ops[x]? = some o ∧ ∀ e ∈ o.after, Region.binds md e = true → listed.getD e.on false = true) → listed.getD a false = true
  | [], _, _, _, hx, _ => by cases hx
  | b :: l, a, h, x, hx, ⟨o, ho, hall⟩ => by
    simp only [chainW, Bool.and_eq_true] at h
    rcases List.mem_cons.1 hx with rfl | hx
    · exact reach_listed inv 5 x a o ho hall h.1
    · have hb := chain_head inv l b h.2 x hx ⟨o, ho, hall⟩
      cases ho2 : ops[b]? with
      | none => have h1 := h.1; unfold reachB at h1; rw [ho2] at h1; cases h1
      | some o2 => exact reach_listed inv 5 b a o2 ho2 (inv.closed _ _ ho2 hb) h.1
theorem ready_pre {j : Nat} {listed : Array Bool} (h : j ∈ Region.ready md ops listed) : (∃ o, ops[j]? = some o ∧ ∀ e ∈ o.after, Region.binds md e = true → listed.getD e.on false = true) ∧ listed.getD j false = false := by
  obtain ⟨h1, o, ho, hall⟩ := mem_ready.1 h
  exact ⟨⟨o, ho, hall⟩, getD_both h1⟩
theorem chain_tail {a : Nat} {l : List Nat} (h : chainW md ops (a :: l) = true) : chainW md ops l = true := by
  cases l with
  | nil => rfl
  | cons b l => simp only [chainW, Bool.and_eq_true] at h; exact h.2
theorem chain_pair {n : Nat} {listed : Array Bool} (inv : HeadInv md ops n listed) : ∀ (ws : List Nat), chainW md ops ws = true → ∀ i j, i ∈ ws → j ∈ ws → i ≠ j → i ∈ Region.ready md ops listed → j ∈ Region.ready md ops listed → False
  | [], _, _, _, hi, _, _, _, _ => by cases hi
  | a :: l, h, i, j, hi, hj, hne, ri, rj => by
    rcases List.mem_cons.1 hi with e1 | hi2
    · rcases List.mem_cons.1 hj with e2 | hj2
      · exact hne (e1.trans e2.symm)
      · subst e1
        have h1 := chain_head inv l i h j hj2 (ready_pre rj).1
        rw [(ready_pre ri).2] at h1; cases h1
    · rcases List.mem_cons.1 hj with e2 | hj2
      · subst e2
        have h1 := chain_head inv l j h i hi2 (ready_pre ri).1
        rw [(ready_pre rj).2] at h1; cases h1
      · exact chain_pair inv l (chain_tail h) i j hi2 hj2 hne ri rj
theorem chain_W {n : Nat} {listed : Array Bool} (inv : HeadInv md ops n listed) {ws : List Nat} (h : chainW md ops ws = true) {i j : Nat} (ri : i ∈ Region.ready md ops listed) (rj : j ∈ Region.ready md ops listed) (hne : i ≠ j) : ws.contains i = false ∨ ws.contains j = false := by
  cases hi : ws.contains i with
  | false => exact .inl rfl
  | true =>
    cases hj : ws.contains j with
    | false => exact .inr rfl
    | true => exact (chain_pair inv ws h i j (by simpa using hi) (by simpa using hj) hne ri rj).elim

theorem wpAnyY_first {n i : Nat} {oi : Oper} {L : Array Bool → Act → World → Prop} (hi : ops[i]? = some oi) (hsel : ∀ (j : Nat) (o : Oper) cs b, ops[j]? = some o → o.op ≠ .select cs b) (hp : ∀ listed i j, HeadInv md ops n listed → i ∈ Region.ready md ops listed → j ∈ Region.ready md ops listed → i ≠ j → W i = false ∨ W j = false)
    (hs : Region.sinkB md ops n = true) (hc : Region.chainB md ops n = true) (hn : n < ops.size) (hin : i < n)
    (hdone : ∀ listed a w, L listed a w → ∀ j ∈ Region.ready md ops listed, n ≤ j) :
    ∀ (f : Nat) (listed : Array Bool) (a : Act) (w : World), C w → HeadInv md ops n listed →
      (∀ j oj, ops[j]? = some oj → j ≠ i → listed.getD j true = false → (∀ e ∈ oj.after, Region.binds md e = true → e.on ≠ i) → oi.apart ops oj = true) →
      i ∈ Region.ready md ops listed → opX P C W ops i oi (wpAnyX P md C W ops n L f (listed.setIfInBounds i true)) a w → wpAnyX P md C W ops n L (f + 1) listed a w := by
  intro f
  induction f with
  | zero =>
    intro listed a w hC inv _ hr H
    have hun := (mem_ready.1 hr).1
    refine ⟨fun h => (by rw [h] at hr; cases hr), fun j hj => ?_⟩
    have hjn : j < n := by
      rcases Nat.lt_or_ge j n with h | h
      · exact h
      · exact absurd hj (tail_waits hs hc hn inv _ i rfl hin hun j h)
    refine ⟨hjn, fun oj hoj => ?_⟩
    by_cases hji : j = i
    · subst hji
      rw [hi] at hoj; cases hoj
      exact H
    · exfalso
      obtain ⟨a', w', ha'⟩ := opX_some H
      have := hdone _ _ _ ha' j (ready_mono hj hji)
      omega
  | succ f ih =>
    intro listed a w hC inv hfree hr H
    have hun := (mem_ready.1 hr).1
    refine ⟨fun h => (by rw [h] at hr; cases hr), fun j hj => ?_⟩
    have hjn : j < n := by
      rcases Nat.lt_or_ge j n with h | h
      · exact h
      · exact absurd hj (tail_waits hs hc hn inv _ i rfl hin hun j h)
    refine ⟨hjn, fun oj hoj => ?_⟩
    by_cases hji : j = i
    · subst hji
      rw [hi] at hoj; cases hoj
      exact H
    · obtain ⟨hjun, oj', hoj', hall⟩ := mem_ready.1 hj
      rw [hoj] at hoj'; cases hoj'
      have hnot : ∀ e ∈ oj.after, Region.binds md e = true → e.on ≠ i := fun e he hb heq => by
        have h1 := hall e he hb
        rw [heq, getD_both hun] at h1
        cases h1
      have h2 := opX_swap (hfree j oj hoj hji hjun hnot) (fun cs b => hsel i oi cs b hi) (fun cs b => hsel j oj cs b hoj) (hp listed i j inv hr hj (Ne.symm hji)) hC
        (opX_mono hC (fun b u _ hb => (hb.2 j (ready_mono hj hji)).2 oj hoj) H)
      refine opX_mono hC (fun b u hu hb => ih (listed.setIfInBounds j true) b u hu (inv.set hj hjn) ?_ (ready_mono hr (Ne.symm hji)) ?_) h2
      · intro k ok hk hki hun' hno
        refine hfree k ok hk hki ?_ hno
        by_cases hjk : j = k
        · subst hjk; exact hjun
        · rw [getD_set_ne true hjk] at hun'; exact hun'
      · rw [Array.setIfInBounds_comm _ _ hji]
        exact hb

theorem wpAnyY_lex {n g : Nat} {T : Act → World → Prop} (hsel : Region.noSelect ops = true) (hp : ∀ listed i j, HeadInv md ops n listed → i ∈ Region.ready md ops listed → j ∈ Region.ready md ops listed → i ≠ j → W i = false ∨ W j = false) (hs : Region.sinkB md ops n = true) (hc : Region.chainB md ops n = true) (hn : n < ops.size) :
    ∀ (l : List Oper) (k : Nat) (listed : Array Bool) (a : Act) (w : World), C w → (∀ j, j < l.length → l[j]? = ops[k + j]?) → k + l.length = n → HeadInv md ops n listed →
    Region.lexHead md ops g l.length k listed = true → wpX P C W ops T k l a w →
    wpAnyX P md C W ops n (fun listed' a' w' => Region.seqB md ops g n listed' = true ∧ T a' w') l.length listed a w
  | [], k, listed, a, w, _, _, hk, _, hB, h => by
    have : k = n := by simpa using hk
    subst this
    exact ⟨by simpa [Region.lexHead] using hB, h⟩
  | o :: l, k, listed, a, w, hC, hl, hk, inv, hB, h => by
    have h0 : ops[k]? = some o := by simpa using (hl 0 (by simp)).symm
    simp only [List.length_cons, Region.lexHead, Bool.and_eq_true] at hB
    obtain ⟨⟨hr, hf⟩, hB'⟩ := hB
    have hkn : k < n := by simp only [List.length_cons] at hk; omega
    have hr' : k ∈ Region.ready md ops listed := by simpa using hr
    refine wpAnyY_first h0 (Region.noSelect_spec hsel) hp hs hc hn hkn (fun listed' a' w' hL => seqB_ready hL.1) l.length listed a w hC inv (Region.free_spec h0 hf) hr' ?_
    exact opX_mono hC (fun b u hu hb => wpAnyY_lex hsel hp hs hc hn l (k + 1) _ b u hu (fun j hj => by have := hl (j + 1) (by simp; omega); simpa [Nat.add_assoc, Nat.add_comm 1 j] using this) (by simp only [List.length_cons] at hk; omega) (inv.set hr' hkn) hB' hb) h

/-- THE REGION, WHATEVER THE ORDER, OUT OF ONE WALK IN THE ORDER OF THE TEXT: 'n' operations, then the tail. -/
theorem wp_region_Y {id : Nat} {Q : Exit → Act → World → Prop} {a : Act} {w : World} {l : List Oper} (n : Nat) (C : World → Prop) (ws : List Nat) (hm : P.follows .mixedOrders = true) (hB : (Region.lexTailB .any l.toArray n && chainW .any l.toArray ws) = true) (hC : C w.drew)
    (h : wpX P C (fun i => ws.contains i) l.toArray (fun a' w' => wpList P l.toArray Q (l.drop n) a' w') 0 (l.take n) a w.drew) : (Code.region id l.toArray true).wp P Q a w := by
  simp only [Region.lexTailB, Bool.and_eq_true, decide_eq_true_eq] at hB
  obtain ⟨⟨⟨⟨⟨hsel, hn⟩, hs⟩, hc⟩, hlex⟩, hp⟩ := hB
  have hn' : n < l.length := by simpa using hn
  have htl : (l.take n).length = n := by simp; omega
  have hdl : (l.drop n).length = l.toArray.size - n := by simp
  have inv0 : HeadInv .any l.toArray n (Array.replicate l.toArray.size false) :=
    ⟨by simp, fun j oj _ hl => (by rw [getD_replicate_false] at hl; cases hl), fun t _ ht => getD_in (by simpa using ht) (getD_replicate_false _ _)⟩
  have H := wpAnyY_lex (md := .any) (W := fun i => ws.contains i) (g := l.toArray.size - n) hsel (fun listed i j inv hi hj hne => chain_W inv hp hi hj hne) hs hc hn (l.take n) 0 _ a w.drew hC (fun j hj => by
    have hj' : j < n := by rw [htl] at hj; exact hj
    simp [hj']) (by simpa using htl) inv0 (by rw [htl]; exact hlex) h
  refine wp_region_any hm ?_
  have := wpAny_of_X (Q' := Q) (g := l.toArray.size - n) (fun listed a' w' _ hL => by
    have := wpAny_of_seq (md := .any) (Q' := Q) (l.drop n) n listed a' w' (fun j => by simp [List.getElem?_drop]) (by rw [hdl]; exact hL.1) hL.2
    rwa [hdl] at this) _ _ _ _ hC H
  rw [htl, show n + (l.toArray.size - n) = l.toArray.size by omega] at this
  exact this

end
end Go.Proofs.Ytdankjhjmaehiaa.Lx
