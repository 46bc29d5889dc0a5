/- A region whose order is open, walked once in the order of the text, where some operations give one of several values (a NaN, say): what each may give is named ahead ('R'), the others give one value in every world of a class 'C'. -/
import Derived.Deep.QuietTactic
import Derived.WalkKit
import Derived.BigQuiet
namespace Go.Proofs.Ytdankjhjmaehiaa.Rel
open Go.RowKit
section
variable {P : Program} {ops : Array Oper} {md : Region.Mode} {C : World → Prop} {R : Nat → Option (Value → Prop)}

/-- one of several values, and a world of the class -/
def relOk (P : Program) (C : World → Prop) (V : Value → Prop) : Result Next → Prop
  | .ok (.value u) w' => V u ∧ C w'
  | .ok (.enter f args) w' => Calls P f args w' fun e w'' => ∃ u, e = .returned u ∧ V u ∧ C w''
  | _ => False
/-- this value, the world as it was -/
def oneOk (w : World) (v : Value) : Result Next → Prop
  | .ok (.value u) w' => w' = w ∧ u = v
  | .ok .skip w' => w' = w ∧ undef = v
  | _ => False

/-- operation 'n', carried out in state 'a' -/
def opR (P : Program) (C : World → Prop) (R : Nat → Option (Value → Prop)) (ops : Array Oper) (n : Nat) (o : Oper) (K : Act → Prop) (a : Act) : Prop :=
  if Region.wanted o (yielded ops a.tmps) then
    match R n with
    | some V => (∀ w, C w → relOk P C V ((execOp a.eval o).run P w)) ∧ ∀ v, V v → K (a.put o.dst v)
    | none => ∃ v, (∀ w, C w → oneOk w v ((execOp a.eval o).run P w)) ∧ K (a.put o.dst v)
  else K (a.put o.dst undef)

theorem opR_mono {n : Nat} {o : Oper} {K K' : Act → Prop} {a : Act} (h : ∀ a, K a → K' a) (hh : opR P C R ops n o K a) : opR P C R ops n o K' a := by
  unfold opR at *
  split
  · rename_i hw
    rw [if_pos hw] at hh
    split
    · rename_i V hV
      rw [hV] at hh
      exact ⟨hh.1, fun v hv => h _ (hh.2 v hv)⟩
    · rename_i hV
      rw [hV] at hh
      obtain ⟨v, h1, h2⟩ := hh
      exact ⟨v, h1, h _ h2⟩
  · rename_i hw
    rw [if_neg hw] at hh
    exact h _ hh

theorem relOk_some {_w : World} {V : Value → Prop} {r : Result Next} (h : relOk P C V r) : ∃ v, V v := by
  unfold relOk at h
  split at h
  · exact ⟨_, h.1⟩
  · obtain ⟨e, w', fr, ⟨u, _, hu, _⟩, _⟩ := h []
    exact ⟨u, hu⟩
  · exact h.elim
theorem oneOk_eq {w : World} {u v : Value} {r : Result Next} (h : oneOk w u r) (k : oneOk w v r) : u = v := by
  unfold oneOk at h k
  split at h
  · exact h.2.symm.trans k.2
  · exact h.2.symm.trans k.2
  · exact h.elim

/-- two operations that do not lean on each other may change places -/
theorem opR_swap {i j : Nat} {oi oj : Oper} (hC : ∃ w, C w) (hap : oi.apart ops oj = true) (hsi : ∀ cs b, oi.op ≠ .select cs b) (hsj : ∀ cs b, oj.op ≠ .select cs b) {K : Act → Prop} {a : Act}
    (h : opR P C R ops i oi (fun b => opR P C R ops j oj K b) a) : opR P C R ops j oj (fun b => opR P C R ops i oi K b) a := by
  obtain ⟨w0, hw0⟩ := hC
  obtain ⟨h1, h2, h3⟩ := Oper.apart_spec hap
  have ei : ∀ u, execOp (a.put oj.dst u).eval oi = execOp a.eval oi := fun u => execOp_put oi hsi a oj.dst u h3
  have wi : ∀ u, Region.wanted oi (yielded ops (a.put oj.dst u).tmps) = Region.wanted oi (yielded ops a.tmps) := fun u => wanted_put oi a oj.dst u h3
  have ej : ∀ u, execOp (a.put oi.dst u).eval oj = execOp a.eval oj := fun u => execOp_put oj hsj a oi.dst u h1
  have wj : ∀ u, Region.wanted oj (yielded ops (a.put oi.dst u).tmps) = Region.wanted oj (yielded ops a.tmps) := fun u => wanted_put oj a oi.dst u h1
  have cm : ∀ u v, (a.put oi.dst u).put oj.dst v = (a.put oj.dst v).put oi.dst u := fun u v => Act.put_comm a u v h2
  unfold opR at *
  simp only [ei, wi, ej, wj, cm] at h ⊢
  by_cases hwj : Region.wanted oj (yielded ops a.tmps) = true
  · simp only [hwj, if_true] at h ⊢
    by_cases hwi : Region.wanted oi (yielded ops a.tmps) = true
    · simp only [hwi, if_true] at h ⊢
      cases hRi : R i with
      | none =>
        simp only [hRi] at h ⊢
        obtain ⟨v, hv, h⟩ := h
        cases hRj : R j with
        | none =>
          simp only [hRj] at h ⊢
          obtain ⟨u, hu, h⟩ := h
          exact ⟨u, hu, v, hv, h⟩
        | some V =>
          simp only [hRj] at h ⊢
          exact ⟨h.1, fun u hu => ⟨v, hv, h.2 u hu⟩⟩
      | some U =>
        simp only [hRi] at h ⊢
        obtain ⟨hU, h⟩ := h
        obtain ⟨v0, hv0⟩ := relOk_some (_w := w0) (hU w0 hw0)
        cases hRj : R j with
        | none =>
          simp only [hRj] at h ⊢
          obtain ⟨u, hu, _⟩ := h v0 hv0
          refine ⟨u, hu, hU, fun v hv => ?_⟩
          obtain ⟨u', hu', hk⟩ := h v hv
          rw [oneOk_eq (hu w0 hw0) (hu' w0 hw0)]
          exact hk
        | some V =>
          simp only [hRj] at h ⊢
          exact ⟨(h v0 hv0).1, fun u hu => ⟨hU, fun v hv => (h v hv).2 u hu⟩⟩
    · simp only [hwi] at h ⊢
      exact h
  · simp only [hwj] at h ⊢
    exact h

/-- the operations in the order of the text -/
def wpRel (P : Program) (C : World → Prop) (R : Nat → Option (Value → Prop)) (ops : Array Oper) (Q : Act → Prop) : Nat → List Oper → Act → Prop
  | _, [], a => Q a
  | n, o :: rest, a => opR P C R ops n o (wpRel P C R ops Q (n + 1) rest) a

/-- whatever order -/
def wpAnyR (P : Program) (md : Region.Mode) (C : World → Prop) (R : Nat → Option (Value → Prop)) (ops : Array Oper) (Q : Act → Prop) : Nat → Array Bool → Act → Prop
  | 0, listed, a => Region.ready md ops listed = [] ∧ Q a
  | fuel + 1, listed, a => (Region.ready md ops listed = [] → Q a) ∧
    ∀ i ∈ Region.ready md ops listed, ∀ o, ops[i]? = some o → opR P C R ops i o (wpAnyR P md C R ops Q fuel (listed.setIfInBounds i true)) a

theorem wpAny_of_rel {Q : Act → Prop} {Q' : Exit → Act → World → Prop} (hQ : ∀ a w, C w → Q a → Q' .normal a w) : ∀ (fuel : Nat) (listed : Array Bool) (a : Act) (w : World), C w →
    wpAnyR P md C R ops Q fuel listed a → wpAny P md ops Q' fuel listed a w
  | 0, _, _, _, hw, h => ⟨h.1, hQ _ _ hw h.2⟩
  | fuel + 1, listed, a, w, hw, h => by
    refine ⟨fun h0 => hQ _ _ hw (h.1 h0), fun i hi => ?_⟩
    obtain ⟨_, o, ho, _⟩ := mem_ready.1 hi
    have hh := h.2 i hi o ho
    unfold wpOp
    rw [ho]
    simp only []
    unfold opR at hh
    split
    · rename_i hwant
      rw [if_pos hwant] at hh
      refine .inl ?_
      unfold Oper.wp
      cases hR : R i with
      | none =>
        simp only [hR] at hh
        obtain ⟨v, hv, hk⟩ := hh
        have h1 := hv w hw
        generalize (execOp a.eval o).run P w = r at *
        unfold oneOk at h1
        split at h1
        · obtain ⟨rfl, rfl⟩ := h1
          exact wpAny_of_rel hQ fuel _ _ _ hw hk
        · obtain ⟨rfl, rfl⟩ := h1
          exact wpAny_of_rel hQ fuel _ _ _ hw hk
        · exact h1.elim
      | some V =>
        simp only [hR] at hh
        obtain ⟨hV, hk⟩ := hh
        have h1 := hV w hw
        generalize (execOp a.eval o).run P w = r at *
        unfold relOk at h1
        split at h1
        · exact wpAny_of_rel hQ fuel _ _ _ h1.2 (hk _ h1.1)
        · refine Calls.mono h1 ?_
          rintro e w'' ⟨u, rfl, hu, hc⟩
          exact wpAny_of_rel hQ fuel _ _ _ hc (hk _ hu)
        · exact h1.elim
    · rename_i hwant
      rw [if_neg hwant] at hh
      exact wpAny_of_rel hQ fuel _ _ _ hw hh

theorem wpAnyR_first {Q : Act → Prop} {i : Nat} {oi : Oper} (hC : ∃ w, C w) (hi : ops[i]? = some oi) (hsel : ∀ (j : Nat) (o : Oper) cs b, ops[j]? = some o → o.op ≠ .select cs b) :
    ∀ (fuel : Nat) (listed : Array Bool) (a : Act),
      (∀ j oj, ops[j]? = some oj → j ≠ i → listed.getD j true = false → (∀ e ∈ oj.after, Region.binds md e = true → e.on ≠ i) → oi.apart ops oj = true) →
      i ∈ Region.ready md ops listed → opR P C R ops i oi (wpAnyR P md C R ops Q fuel (listed.setIfInBounds i true)) a → wpAnyR P md C R ops Q (fuel + 1) listed a := by
  intro fuel
  induction fuel with
  | zero =>
    intro listed a _ hr H
    refine ⟨fun h => (by rw [h] at hr; cases hr), fun j hj o ho => ?_⟩
    by_cases hji : j = i
    · subst hji
      rw [hi] at ho; cases ho
      exact H
    · exfalso
      have hm := ready_mono hj hji
      have : ∃ a, wpAnyR P md C R ops Q 0 (listed.setIfInBounds i true) a := by
        obtain ⟨w0, hw0⟩ := hC
        unfold opR at H
        split at H
        · split at H
          · obtain ⟨v, hv⟩ := relOk_some (_w := w0) (H.1 w0 hw0)
            exact ⟨_, H.2 v hv⟩
          · obtain ⟨v, _, hk⟩ := H
            exact ⟨_, hk⟩
        · exact ⟨_, H⟩
      obtain ⟨a', ha'⟩ := this
      rw [ha'.1] at hm
      cases hm
  | succ fuel ih =>
    intro listed a hfree hr H
    refine ⟨fun h => (by rw [h] at hr; cases hr), fun j hj oj hoj => ?_⟩
    by_cases hji : j = i
    · subst hji
      rw [hi] at hoj; cases hoj
      exact H
    · obtain ⟨hjun, oj', hoj', hall⟩ := mem_ready.1 hj
      rw [hoj] at hoj'; cases hoj'
      have hnot : ∀ e ∈ oj.after, Region.binds md e = true → e.on ≠ i := fun e he hb heq => by
        have g1 := hall e he hb
        have g0 := (mem_ready.1 hr).1
        rw [heq] at g1
        rw [Array.getD_eq_getD_getElem?] at g0 g1
        cases hl : listed[i]? with
        | none => rw [hl] at g1; cases g1
        | some q => rw [hl] at g0 g1; simp at g0 g1; rw [g0] at g1; cases g1
      have h2 := opR_swap hC (hfree j oj hoj hji hjun hnot) (fun cs b => hsel i oi cs b hi) (fun cs b => hsel j oj cs b hoj) (opR_mono (fun b hb => hb.2 j (ready_mono hj hji) oj hoj) H)
      refine opR_mono (fun b hb => ih (listed.setIfInBounds j true) b ?_ (ready_mono hr (Ne.symm hji)) ?_) h2
      · intro k ok hk hki hun hno
        refine hfree k ok hk hki ?_ hno
        by_cases hjk : j = k
        · subst hjk; exact hjun
        · rw [getD_set_ne true hjk] at hun; exact hun
      · rw [Array.setIfInBounds_comm _ _ hji]
        exact hb

theorem wpAnyR_lex {Q : Act → Prop} (hC : ∃ w, C w) (hs : Region.noSelect ops = true) : ∀ (l : List Oper) (k : Nat) (listed : Array Bool) (a : Act), (∀ j, l[j]? = ops[k + j]?) →
    Region.lexFrom md ops l.length k listed = true → wpRel P C R ops Q k l a → wpAnyR P md C R ops Q l.length listed a
  | [], _, _, _, _, hB, h => ⟨by simpa [Region.lexFrom] using hB, h⟩
  | o :: l, k, listed, a, hl, hB, h => by
    have h0 : ops[k]? = some o := by simpa using (hl 0).symm
    simp only [List.length_cons, Region.lexFrom, Bool.and_eq_true] at hB
    obtain ⟨⟨hr, hf⟩, hB'⟩ := hB
    exact wpAnyR_first hC h0 (Region.noSelect_spec hs) l.length listed a (Region.free_spec h0 hf) (by simpa using hr)
      (opR_mono (fun b hb => wpAnyR_lex hC hs l (k + 1) _ b (fun j => by have := hl (j + 1); simpa [Nat.add_assoc, Nat.add_comm 1 j] using this) hB' hb) h)

/-- THE REGION, WHATEVER THE ORDER, OUT OF ONE WALK IN THE ORDER OF THE TEXT. -/
theorem wp_region_rel {id : Nat} {Q : Exit → Act → World → Prop} {a : Act} {w : World} {l : List Oper} (C : World → Prop) (R : Nat → Option (Value → Prop)) (hm : P.follows .mixedOrders = true) (hB : Region.lexB .any l.toArray = true)
    (hC : C w.drew) (h : wpRel P C R l.toArray (fun a' => ∀ w', C w' → Q .normal a' w') 0 l a) : (Code.region id l.toArray true).wp P Q a w := by
  simp only [Region.lexB, Bool.and_eq_true] at hB
  refine wp_region_any hm (wpAny_of_rel (R := R) (Q := fun a' => ∀ w', C w' → Q .normal a' w') (fun _ w' hw' h => h w' hw') _ _ _ _ hC ?_)
  have := wpAnyR_lex (C := C) (R := R) (md := .any) ⟨_, hC⟩ hB.1 l 0 (Array.replicate l.length false) a (by simp) (by simpa using hB.2) h
  simpa using this

theorem wpRel_nil {Q : Act → Prop} {n : Nat} {a : Act} (h : Q a) : wpRel P C R ops Q n [] a := h
theorem wpRel_step {Q : Act → Prop} {n : Nat} {a : Act} {o : Oper} {rest : List Oper}
    (h : ∀ K : Act → Prop, (∀ a, wpRel P C R ops Q (n + 1) rest a → K a) → opR P C R ops n o K a) : wpRel P C R ops Q n (o :: rest) a := h _ fun _ h => h
end
/-- an operation that enters no Go function, by its look -/
def plainOp (o : Oper) : Bool :=
  match o.op with
  | .nilCheck _ | .go _ | .defer _ | .send _ _ | .recv _ _ _ | .select _ _ => false
  | .call c => match c.callee with | .builtin .len | .builtin .cap | .builtin .min | .builtin .max => true | _ => false
  | _ => true
theorem no_v {P : Program} {w w' : World} {f : FuncId} {args : Array Value} (s : Sem Value) : ((do pure (Next.value (← s))) : Sem Next).run P w ≠ .ok (.enter f args) w' := by
  rw [Sem.run_bind]
  cases s.run P w <;> simp [Result.andThen]
theorem no_u {P : Program} {w w' : World} {f : FuncId} {args : Array Value} (s : Sem Unit) : ((do s; pure Next.skip) : Sem Next).run P w ≠ .ok (.enter f args) w' := by
  rw [Sem.run_bind]
  cases s.run P w <;> simp [Result.andThen]
theorem no_enter {P : Program} {o : Oper} (h : plainOp o = true) (ρ : Operand → Value) (w w' : World) (f : FuncId) (args : Array Value) : (execOp ρ o).run P w ≠ .ok (.enter f args) w' := by
  unfold execOp
  unfold plainOp at h
  split <;> rename_i ho <;> rw [ho] at h <;> first | exact no_v _ | exact no_u _ | (cases h; done) | skip
  · simp
  · simp
  · dsimp only
    rw [Sem.run_bind]
    generalize (asBool _).run P w = r
    cases r <;> simp [Result.andThen]
  · rename_i c
    dsimp only at h
    split at h <;> rename_i hc <;> first | (cases h; done) | skip
    all_goals
      simp only [resolve, hc]
      rw [Sem.run_bind, Sem.run_pure]
      simp only [Result.andThen]
      exact no_v _
section
variable {P : Program} {ops : Array Oper} {C : World → Prop} {R : Nat → Option (Value → Prop)}
theorem opR_plain {n : Nat} {o : Oper} {K : Act → Prop} {a : Act} (hw : Region.wanted o (yielded ops a.tmps) = true) (hR : R n = none) (hp : plainOp o = true) (h : o.quiet P a C K) : opR P C R ops n o K a := by
  unfold opR
  rw [if_pos hw, hR]
  obtain ⟨v, hv, hk⟩ := h
  refine ⟨v, fun w hw' => ?_, hk⟩
  have h1 := hv w hw'
  unfold Oper.quietAt at h1
  have hne := fun w' f args => no_enter (P := P) hp a.eval w w' f args
  generalize (execOp a.eval o).run P w = r at h1 hne
  cases r with
  | halt x w' => exact h1.elim
  | ok n w' =>
    cases n with
    | value u => exact h1
    | skip => exact ⟨h1.1, h1.2.symm⟩
    | enter f args => exact absurd rfl (hne _ _ _)
    | _ => exact h1.elim
theorem opR_skip {n : Nat} {o : Oper} {K : Act → Prop} {a : Act} (hw : Region.wanted o (yielded ops a.tmps) = false) (h : K (a.put o.dst undef)) : opR P C R ops n o K a := by
  unfold opR
  rw [if_neg (by rw [hw]; decide)]
  exact h
theorem opR_rel {n : Nat} {o : Oper} {K : Act → Prop} {a : Act} {V : Value → Prop} (hw : Region.wanted o (yielded ops a.tmps) = true) (hR : R n = some V)
    (h : ∀ w, C w → relOk P C V ((execOp a.eval o).run P w)) (hk : ∀ v, V v → K (a.put o.dst v)) : opR P C R ops n o K a := by
  unfold opR
  rw [if_pos hw, hR]
  exact ⟨h, hk⟩
end

open Classical in
/-- 'u' if it is as 'W' below block 'B', else 'W': so that 'a world as W was below B' is 'mix B W u' for some u, and a cell below B reads as in W by a rule. -/
noncomputable def mix (B : Nat) (W u : World) : World := if Below B W u then u else W
theorem mix_below (B : Nat) (W u : World) : Below B W (mix B W u) := by
  unfold mix
  split
  · assumption
  · exact Below.refl _ _
theorem mix_of {B : Nat} {W w' : World} (h : Below B W w') : ∃ u, w' = mix B W u := ⟨w', by unfold mix; rw [if_pos h]⟩
@[go_sem] theorem cell_mix {B : Nat} {W u : World} {p : Addr} (h : p.block < B) : (mix B W u).cell? p = W.cell? p := (mix_below B W u).cell h
@[go_sem] theorem frozen_mix {B : Nat} {W u : World} {p : Addr} (h : p.block < B) : (mix B W u).frozen? p = W.frozen? p := (mix_below B W u).frozen h
/-- the region, in the worlds that are as 'w' was below 'B' -/
theorem wp_region_mix {P : Program} {id : Nat} {Q : Exit → Act → World → Prop} {a : Act} {w : World} {l : List Oper} (B : Nat) (R : Nat → Option (Value → Prop)) (hm : P.follows .mixedOrders = true) (hB : Region.lexB .any l.toArray = true)
    (h : wpRel P (fun w' => ∃ u, w' = mix B w u) R l.toArray (fun a' => ∀ w', Below B w w' → Q .normal a' w') 0 l a) : (Code.region id l.toArray true).wp P Q a w := by
  refine wp_region_rel (fun w' => ∃ u, w' = mix B w u) R hm hB (mix_of (Below.refl B w).drew) ?_
  have key : ∀ (n : Nat) (l' : List Oper) (a : Act), wpRel P (fun w' => ∃ u, w' = mix B w u) R l.toArray (fun a' => ∀ w', Below B w w' → Q .normal a' w') n l' a →
      wpRel P (fun w' => ∃ u, w' = mix B w u) R l.toArray (fun a' => ∀ w', (∃ u, w' = mix B w u) → Q .normal a' w') n l' a := by
    intro n l'
    induction l' generalizing n with
    | nil => intro a h w' ⟨u, hu⟩; subst hu; exact h _ (mix_below B w u)
    | cons o l' ih => intro a h; exact opR_mono (fun b hb => ih _ b hb) h
  exact key 0 l a h
/-- a call in such a world -/
theorem mix_call {P : Program} {f : FuncId} {args : Array Value} {B : Nat} {W u : World} {V : Value → Prop} (hB : B ≤ W.heap.size)
    (h : ∀ w : World, Below B W w → Calls P f args w fun e w' => ∃ v, e = .returned v ∧ V v ∧ Below w.heap.size w w') :
    Calls P f args (mix B W u) fun e w'' => ∃ v, e = .returned v ∧ V v ∧ ∃ u', w'' = mix B W u' := by
  have hb := mix_below B W u
  refine (h _ hb).mono ?_
  rintro e w' ⟨v, he, hv, hw⟩
  exact ⟨v, he, hv, mix_of (hb.trans (hw.mono (Nat.le_trans hB hb.size)))⟩
theorem mix_next {B : Nat} {W u w' : World} (hB : B ≤ W.heap.size) (hb : Below (mix B W u).heap.size (mix B W u) w') : ∃ u', w' = mix B W u' :=
  mix_of ((mix_below B W u).trans (hb.mono (Nat.le_trans hB (mix_below B W u).size)))
end Go.Proofs.Ytdankjhjmaehiaa.Rel
