/- A region whose order is open, walked once in the order of the text, worlds and all: the operations that write are in one chain ('W'); all others give one value in every world of a class 'C' that the writers keep; the last operations come behind all of these. A region whose order is open, walked once: the writers in a chain of steps (each waits for the one ahead, through other operations too). Regions of open order inside a round of a range over a function: by the walk of Lx (generic). Regions of open order inside a round, their writers in a chain of steps (generic). -/
import Derived.StillTail
import Derived.Test.YtpchhfhmopmagaaGreatRel
import Derived.OrdersIn
import Derived.RangeFuncCalls
set_option linter.unusedVariables false
set_option linter.unusedSimpArgs false
/- A region whose order is open, walked once in the order of the text, worlds and all: the operations that write are in one chain ('W'); all others give one value in every world of a class 'C' that the writers keep; the last operations come behind all of these. -/
namespace Go.Proofs.YtpchhfhmopmagaaGreat.Lx
open Go.RowKit Rel
section
variable {P : Program} {ops : Array Oper} {md : Region.Mode} {C : World → Prop} {W : Nat → Bool}

def no : Exit → Act → World → Prop := fun _ _ _ => False
/-- only a plain end -/
def Nq (K : Act → World → Prop) : Exit → Act → World → Prop
  | .normal, a, w => K a w
  | _, _, _ => False
theorem no_out : ¬ LetsOut no := fun ⟨_, _, h⟩ => h
theorem nq_out {K : Act → World → Prop} : ¬ LetsOut (Nq K) := fun ⟨_, _, h⟩ => h

theorem nq_mk {K : Act → World → Prop} {a : Act} {w : World} (h : C w) (k : K a w) : Nq (fun a' w' => C w' ∧ K a' w') .normal a w := ⟨h, k⟩
/-- operation 'n', carried out in state 'a', 'w' -/
def opX (P : Program) (C : World → Prop) (W : Nat → Bool) (ops : Array Oper) (n : Nat) (o : Oper) (K : Act → World → Prop) (a : Act) (w : World) : Prop :=
  if Region.wanted o (yielded ops a.tmps) then
    if W n then o.wp P a w (fun a' w' => C w' ∧ K a' w') no
    else ∃ v, (∀ w', C w' → oneOk w' v ((execOp a.eval o).run P w')) ∧ K (a.put o.dst v) w
  else K (a.put o.dst undef) w

theorem wp_mono2 {o : Oper} {a : Act} {w : World} {K K' : Act → World → Prop} {Q : Exit → Act → World → Prop} (h : ∀ a w, K a w → K' a w) (hh : o.wp P a w K no) : o.wp P a w K' Q := by
  unfold Oper.wp at *
  generalize (execOp a.eval o).run P w = r at *
  cases r with
  | ok n w' =>
    cases n <;> simp only [Oper.upon] at hh ⊢ <;>
      first
        | exact h _ _ hh
        | exact Calls.mono hh (fun e w'' he => by
            cases e
            · exact h _ _ he
            · exact he.elim
            · exact absurd he no_out)
        | exact Rows.mono hh (fun _ _ he => h _ _ he)
  | halt x w' => cases x <;> simp only [Oper.upon] at hh ⊢ <;> exact hh.elim
theorem opX_mono {n : Nat} {o : Oper} {K K' : Act → World → Prop} {a : Act} {w : World} (hw : C w) (h : ∀ a w, C w → K a w → K' a w) (hh : opX P C W ops n o K a w) : opX P C W ops n o K' a w := by
  unfold opX at *
  split
  · rename_i hwt
    rw [if_pos hwt] at hh
    split
    · rename_i hW
      rw [if_pos hW] at hh
      exact wp_mono2 (fun a w hk => ⟨hk.1, h _ _ hk.1 hk.2⟩) hh
    · rename_i hW
      rw [if_neg hW] at hh
      obtain ⟨v, h1, h2⟩ := hh
      exact ⟨v, h1, h _ _ hw h2⟩
  · rename_i hwt
    rw [if_neg hwt] at hh
    exact h _ _ hw hh
/-- what a writer does, it does somehow -/
theorem wp_some {o : Oper} {a : Act} {w : World} {K : Act → World → Prop} (h : o.wp P a w K no) : ∃ (b : Act) (v : Value) (w' : World), b.tmps = a.tmps ∧ K (b.put o.dst v) w' := by
  unfold Oper.wp at h
  generalize (execOp a.eval o).run P w = r at h
  cases r with
  | halt x w' => cases x <;> exact h.elim
  | ok n w' =>
    cases n with
    | value v => exact ⟨a, v, w', rfl, h⟩
    | skip => exact ⟨a, _, w', rfl, h⟩
    | defer d => exact ⟨{ a with defers := d :: a.defers }, _, w', rfl, h⟩
    | enter f args =>
      obtain ⟨e, w'', fr, hp, _⟩ := h []
      cases e with
      | returned v => exact ⟨a, v, w'', rfl, hp⟩
      | panicked c => exact hp.elim
      | outgrown => exact absurd hp no_out
    | row r args =>
      obtain ⟨v, w'', hp, _⟩ := h default []
      exact ⟨a, v, w'', rfl, hp⟩
    | _ => exact h.elim
theorem eval_tmps {a b : Act} (h : b.tmps = a.tmps) : b.eval = a.eval := by
  funext x; cases x <;> simp [Act.eval, h]
/-- an operation whose slots lie apart from one that has been carried out -/
theorem wp_put {o : Oper} {a : Act} {w : World} {d : Option Tmp} {v : Value} {K K' : Act → World → Prop} (hs : ∀ cs b, o.op ≠ .select cs b) (h1 : ∀ e, d = some e → e ∉ o.looksAt ops) (h2 : ∀ e, d = some e → o.dst ≠ some e)
    (h : o.wp P (a.put d v) w K no) (hk : ∀ (b : Act) (u : Value) (w' : World), b.tmps = a.tmps → K ((b.put o.dst u).put d v) w' → K' (b.put o.dst u) w') : o.wp P a w K' no := by
  unfold Oper.wp at *
  rw [execOp_put o hs a d v h1] at h
  have cm : ∀ (b : Act) (u : Value), (b.put d v).put o.dst u = (b.put o.dst u).put d v := fun b u => Act.put_comm b v u h2
  generalize (execOp a.eval o).run P w = r at *
  cases r with
  | halt x w' => cases x <;> exact h.elim
  | ok n w' =>
    cases n with
    | value u => exact hk a u _ rfl (by rw [← cm]; exact h)
    | skip => exact hk a undef _ rfl (by rw [← cm]; exact h)
    | defer q =>
      refine hk { a with defers := q :: a.defers } undef _ rfl ?_
      rw [← cm, ← Act.put_defers]
      exact h
    | enter f args =>
      refine Calls.mono h (fun e w'' he => ?_)
      cases e with
      | returned u => exact hk a u _ rfl (by rw [← cm]; exact he)
      | panicked c => exact he.elim
      | outgrown => exact absurd he no_out
    | row r args => exact Rows.mono h (fun u w'' he => hk a u _ rfl (by rw [← cm]; exact he))
    | _ => exact h.elim

/-- two operations that do not lean on each other may change places, if not both write -/
theorem opX_swap {i j : Nat} {oi oj : Oper} (hap : oi.apart ops oj = true) (hsi : ∀ cs b, oi.op ≠ .select cs b) (hsj : ∀ cs b, oj.op ≠ .select cs b) (hW : W i = false ∨ W j = false) {K : Act → World → Prop} {a : Act} {w : World} (hC : C w)
    (h : opX P C W ops i oi (fun b u => opX P C W ops j oj K b u) a w) : opX P C W ops j oj (fun b u => opX P C W ops i oi K b u) a w := by
  obtain ⟨h1, h2, h3⟩ := Oper.apart_spec hap
  have h2' : ∀ e, oj.dst = some e → oi.dst ≠ some e := fun e he hi => h2 e hi he
  have ei : ∀ (b : Act) u, execOp (b.put oj.dst u).eval oi = execOp b.eval oi := fun b u => execOp_put oi hsi b oj.dst u h3
  have wi : ∀ (b : Act) u, Region.wanted oi (yielded ops (b.put oj.dst u).tmps) = Region.wanted oi (yielded ops b.tmps) := fun b u => wanted_put oi b oj.dst u h3
  have ej : ∀ (b : Act) u, execOp (b.put oi.dst u).eval oj = execOp b.eval oj := fun b u => execOp_put oj hsj b oi.dst u h1
  have wj : ∀ (b : Act) u, Region.wanted oj (yielded ops (b.put oi.dst u).tmps) = Region.wanted oj (yielded ops b.tmps) := fun b u => wanted_put oj b oi.dst u h1
  have cm : ∀ (b : Act) u v, (b.put oi.dst u).put oj.dst v = (b.put oj.dst v).put oi.dst u := fun b u v => Act.put_comm b u v h2
  unfold opX at *
  by_cases hwj : Region.wanted oj (yielded ops a.tmps) = true
  · by_cases hwi : Region.wanted oi (yielded ops a.tmps) = true
    · rw [if_pos hwi] at h
      rw [if_pos hwj]
      by_cases hWi : W i = true
      · have hWj : W j = false := by rcases hW with h | h; · rw [hWi] at h; cases h
                                     · exact h
        rw [if_pos hWi] at h
        rw [if_neg (by rw [hWj]; decide)]
        obtain ⟨b, u, w', hb, hc', hk⟩ := wp_some h
        rw [wj, hb, if_pos hwj, if_neg (by rw [hWj]; decide)] at hk
        obtain ⟨v, hv, _⟩ := hk
        rw [ej, eval_tmps hb] at hv
        refine ⟨v, hv, ?_⟩
        (try dsimp only); rw [wi, if_pos hwi, if_pos hWi]
        -- every outcome gives the same value to oj
        have h' : oi.wp P a w (fun a' w' => C w' ∧ K (a'.put oj.dst v) w') no := by
          have key : ∀ (b : Act) (u : Value) (w' : World), b.tmps = a.tmps → C w' ∧ (if Region.wanted oj (yielded ops (b.put oi.dst u).tmps) = true then if W j = true then oj.wp P (b.put oi.dst u) w' (fun a' w' => C w' ∧ K a' w') no else ∃ v, (∀ w', C w' → oneOk w' v ((execOp (b.put oi.dst u).eval oj).run P w')) ∧ K ((b.put oi.dst u).put oj.dst v) w' else K ((b.put oi.dst u).put oj.dst undef) w') → C w' ∧ K ((b.put oi.dst u).put oj.dst v) w' := by
            intro b u w' hb ⟨hc, hk⟩
            rw [wj, hb, if_pos hwj, if_neg (by rw [hWj]; decide)] at hk
            obtain ⟨v', hv', hk⟩ := hk
            rw [ej, eval_tmps hb] at hv'
            rw [oneOk_eq (hv w hC) (hv' w hC)]
            exact ⟨hc, hk⟩
          unfold Oper.wp at h ⊢
          generalize (execOp a.eval oi).run P w = r at h
          cases r with
          | halt x w' => cases x <;> exact h.elim
          | ok n w' =>
            cases n with
            | value u => exact key a u w' rfl h
            | skip => exact key a undef w' rfl h
            | defer q => exact key { a with defers := q :: a.defers } undef w' rfl h
            | enter f args =>
              refine Calls.mono h (fun e w'' he => ?_)
              cases e with
              | returned u => exact key a u w'' rfl he
              | panicked c => exact he.elim
              | outgrown => exact absurd he no_out
            | row r args => exact Rows.mono h (fun u w'' he => key a u w'' rfl he)
            | _ => exact h.elim
        -- carried over to the state in which oj has been carried out
        unfold Oper.wp at h' ⊢
        rw [ei]
        generalize (execOp a.eval oi).run P w = r at h'
        cases r with
        | halt x w' => cases x <;> exact h'.elim
        | ok n w' =>
          cases n with
          | value u => exact ⟨h'.1, by rw [← cm]; exact h'.2⟩
          | skip => exact ⟨h'.1, by rw [← cm]; exact h'.2⟩
          | defer q =>
            refine ⟨h'.1, ?_⟩
            rw [Act.put_defers, ← cm]
            exact h'.2
          | enter f args =>
            refine Calls.mono h' (fun e w'' he => ?_)
            cases e with
            | returned u => exact ⟨he.1, by rw [← cm]; exact he.2⟩
            | panicked c => exact he.elim
            | outgrown => exact absurd he no_out
          | row r args => exact Rows.mono h' (fun u w'' he => ⟨he.1, by rw [← cm]; exact he.2⟩)
          | _ => exact h'.elim
      · rw [if_neg hWi] at h
        obtain ⟨v, hv, h⟩ := h
        rw [wj, if_pos hwj] at h
        by_cases hWj : W j = true
        · rw [if_pos hWj] at h
          rw [if_pos hWj]
          refine wp_put hsj h1 h2 h (fun b u w' hb ⟨hc, hk⟩ => ⟨hc, ?_⟩)
          (try dsimp only); rw [wi, hb, if_pos hwi, if_neg hWi]
          refine ⟨v, ?_, hk⟩
          rw [ei, eval_tmps hb]
          exact hv
        · rw [if_neg hWj] at h
          rw [if_neg hWj]
          obtain ⟨u, hu, hk⟩ := h
          rw [ej] at hu
          refine ⟨u, hu, ?_⟩
          (try dsimp only); rw [wi, if_pos hwi, if_neg hWi]
          refine ⟨v, ?_, by rw [← cm]; exact hk⟩
          rw [ei]
          exact hv
    · rw [if_neg hwi] at h
      rw [wj, if_pos hwj] at h
      rw [if_pos hwj]
      by_cases hWj : W j = true
      · rw [if_pos hWj] at h
        rw [if_pos hWj]
        refine wp_put hsj h1 h2 h (fun b u w' hb ⟨hc, hk⟩ => ⟨hc, ?_⟩)
        (try dsimp only); rw [wi, hb, if_neg hwi]
        exact hk
      · rw [if_neg hWj] at h
        rw [if_neg hWj]
        obtain ⟨u, hu, hk⟩ := h
        rw [ej] at hu
        refine ⟨u, hu, ?_⟩
        (try dsimp only); rw [wi, if_neg hwi, ← cm]
        exact hk
  · rw [if_neg hwj]
    by_cases hwi : Region.wanted oi (yielded ops a.tmps) = true
    · rw [if_pos hwi] at h
      rw [wi, if_pos hwi]
      by_cases hWi : W i = true
      · rw [if_pos hWi] at h
        rw [if_pos hWi]
        unfold Oper.wp at h ⊢
        rw [ei]
        have key : ∀ (b : Act) (u : Value) (w' : World), b.tmps = a.tmps → C w' ∧ (if Region.wanted oj (yielded ops (b.put oi.dst u).tmps) = true then if W j = true then oj.wp P (b.put oi.dst u) w' (fun a' w' => C w' ∧ K a' w') no else ∃ v, (∀ w', C w' → oneOk w' v ((execOp (b.put oi.dst u).eval oj).run P w')) ∧ K ((b.put oi.dst u).put oj.dst v) w' else K ((b.put oi.dst u).put oj.dst undef) w') → C w' ∧ K ((b.put oj.dst undef).put oi.dst u) w' := by
          intro b u w' hb ⟨hc, hk⟩
          rw [wj, hb, if_neg hwj, cm] at hk
          exact ⟨hc, hk⟩
        generalize (execOp a.eval oi).run P w = r at h
        cases r with
        | halt x w' => cases x <;> exact h.elim
        | ok n w' =>
          cases n with
          | value u => exact key a u w' rfl h
          | skip => exact key a undef w' rfl h
          | defer q =>
            have := key { a with defers := q :: a.defers } undef w' rfl h
            rw [← Act.put_defers] at this
            exact this
          | enter f args =>
            refine Calls.mono h (fun e w'' he => ?_)
            cases e with
            | returned u => exact key a u w'' rfl he
            | panicked c => exact he.elim
            | outgrown => exact absurd he no_out
          | row r args => exact Rows.mono h (fun u w'' he => key a u w'' rfl he)
          | _ => exact h.elim
      · rw [if_neg hWi] at h
        rw [if_neg hWi]
        obtain ⟨v, hv, h⟩ := h
        rw [wj, if_neg hwj] at h
        refine ⟨v, ?_, by rw [← cm]; exact h⟩
        rw [ei]
        exact hv
    · rw [if_neg hwi] at h
      rw [wj, if_neg hwj] at h
      (try dsimp only); rw [wi, if_neg hwi, ← cm]
      exact h
/-- whatever order, up to the tail -/
def wpAnyX (P : Program) (md : Region.Mode) (C : World → Prop) (W : Nat → Bool) (ops : Array Oper) (n : Nat) (L : Array Bool → Act → World → Prop) : Nat → Array Bool → Act → World → Prop
  | 0, listed, a, w => L listed a w
  | f + 1, listed, a, w => Region.ready md ops listed ≠ [] ∧ ∀ i ∈ Region.ready md ops listed, i < n ∧ ∀ o, ops[i]? = some o → opX P C W ops i o (wpAnyX P md C W ops n L f (listed.setIfInBounds i true)) a w

theorem wpOp_of_opX {i : Nat} {o : Oper} {K K' : Act → World → Prop} {Q' : Exit → Act → World → Prop} {a : Act} {w : World} (ho : ops[i]? = some o) (hC : C w) (h : ∀ a w, C w → K a w → K' a w) (hh : opX P C W ops i o K a w) : wpOp P ops Q' i K' a w := by
  unfold wpOp
  rw [ho]
  dsimp only
  unfold opX at hh
  split
  · rename_i hw
    rw [if_pos hw] at hh
    refine .inl ?_
    split at hh
    · exact wp_mono2 (fun a w hk => h _ _ hk.1 hk.2) hh
    · obtain ⟨v, hv, hk⟩ := hh
      have h1 := hv w hC
      unfold Oper.wp
      generalize (execOp a.eval o).run P w = r at h1
      unfold oneOk at h1
      split at h1
      · obtain ⟨rfl, rfl⟩ := h1; exact h _ _ hC hk
      · obtain ⟨rfl, rfl⟩ := h1; exact h _ _ hC hk
      · exact h1.elim
  · rename_i hw
    rw [if_neg hw] at hh
    exact h _ _ hC hh

theorem wpAny_of_X {n g : Nat} {L : Array Bool → Act → World → Prop} {Q' : Exit → Act → World → Prop} (hL : ∀ listed a w, C w → L listed a w → wpAny P md ops Q' g listed a w) :
    ∀ (f : Nat) (listed : Array Bool) (a : Act) (w : World), C w → wpAnyX P md C W ops n L f listed a w → wpAny P md ops Q' (f + g) listed a w
  | 0, listed, a, w, hC, h => by rw [Nat.zero_add]; exact hL _ _ _ hC h
  | f + 1, listed, a, w, hC, h => by
    rw [show f + 1 + g = (f + g) + 1 by omega]
    refine ⟨fun h0 => absurd h0 h.1, fun i hi => ?_⟩
    obtain ⟨_, o, ho, _⟩ := mem_ready.1 hi
    exact wpOp_of_opX ho hC (fun a w hw hk => wpAny_of_X hL f _ a w hw hk) ((h.2 i hi).2 o ho)

/-- every two that write, the later waits for the earlier -/
def pairB (md : Region.Mode) (ops : Array Oper) (W : Nat → Bool) : Bool :=
  (List.range ops.size).all fun i => (List.range ops.size).all fun j => !decide (i < j) || !W i || !W j || Region.waitsFor md ops j i

theorem pair_spec (h : pairB md ops W = true) {i j : Nat} {oi oj : Oper} {listed : Array Bool} (hi : ops[i]? = some oi) (hj : ops[j]? = some oj) (hne : j ≠ i) (hr : i ∈ Region.ready md ops listed) (hjun : listed.getD j true = false)
    (hno : ∀ e ∈ oj.after, Region.binds md e = true → e.on ≠ i) : W i = false ∨ W j = false := by
  have hil := (Array.getElem?_eq_some_iff.1 hi).1
  have hjl := (Array.getElem?_eq_some_iff.1 hj).1
  cases hWi : W i with
  | false => exact .inl rfl
  | true =>
    cases hWj : W j with
    | false => exact .inr rfl
    | true =>
      exfalso
      rcases Nat.lt_or_gt_of_ne hne with hlt | hgt
      · have h1 := List.all_eq_true.1 (List.all_eq_true.1 h j (List.mem_range.2 hjl)) i (List.mem_range.2 hil)
        simp [hlt, hWi, hWj] at h1
        obtain ⟨o, ho, e, he, hb, hon⟩ := Region.waitsFor_spec h1
        have : o = oi := Option.some.inj (ho.symm.trans hi)
        subst this
        obtain ⟨_, o', ho', hall⟩ := mem_ready.1 hr
        have : o' = o := Option.some.inj (ho'.symm.trans hi)
        subst this
        have h2 := hall e he hb
        rw [hon, getD_both hjun] at h2
        cases h2
      · have h1 := List.all_eq_true.1 (List.all_eq_true.1 h i (List.mem_range.2 hil)) j (List.mem_range.2 hjl)
        simp [show i < j from hgt, hWi, hWj] at h1
        obtain ⟨o, ho, e, he, hb, hon⟩ := Region.waitsFor_spec h1
        have : o = oj := Option.some.inj (ho.symm.trans hj)
        subst this
        exact hno e he hb hon

theorem opX_some {i : Nat} {o : Oper} {K : Act → World → Prop} {a : Act} {w : World} (h : opX P C W ops i o K a w) : ∃ a' w', K a' w' := by
  unfold opX at h
  split at h
  · split at h
    · obtain ⟨b, u, w', _, _, hk⟩ := wp_some h
      exact ⟨_, _, hk⟩
    · obtain ⟨v, _, hk⟩ := h
      exact ⟨_, _, hk⟩
  · exact ⟨_, _, h⟩

theorem wpAnyX_first {n i : Nat} {oi : Oper} {L : Array Bool → Act → World → Prop} (hi : ops[i]? = some oi) (hsel : ∀ (j : Nat) (o : Oper) cs b, ops[j]? = some o → o.op ≠ .select cs b) (hp : pairB md ops W = true)
    (hs : Region.sinkB md ops n = true) (hc : Region.chainB md ops n = true) (hn : n < ops.size) (hin : i < n)
    (hdone : ∀ listed a w, L listed a w → ∀ j ∈ Region.ready md ops listed, n ≤ j) :
    ∀ (f : Nat) (listed : Array Bool) (a : Act) (w : World), C w → HeadInv md ops n listed →
      (∀ j oj, ops[j]? = some oj → j ≠ i → listed.getD j true = false → (∀ e ∈ oj.after, Region.binds md e = true → e.on ≠ i) → oi.apart ops oj = true) →
      i ∈ Region.ready md ops listed → opX P C W ops i oi (wpAnyX P md C W ops n L f (listed.setIfInBounds i true)) a w → wpAnyX P md C W ops n L (f + 1) listed a w := by
  intro f
  induction f with
  | zero =>
    intro listed a w hC inv _ hr H
    have hun := (mem_ready.1 hr).1
    refine ⟨fun h => (by rw [h] at hr; cases hr), fun j hj => ?_⟩
    have hjn : j < n := by
      rcases Nat.lt_or_ge j n with h | h
      · exact h
      · exact absurd hj (tail_waits hs hc hn inv _ i rfl hin hun j h)
    refine ⟨hjn, fun oj hoj => ?_⟩
    by_cases hji : j = i
    · subst hji
      rw [hi] at hoj; cases hoj
      exact H
    · exfalso
      obtain ⟨a', w', ha'⟩ := opX_some H
      have := hdone _ _ _ ha' j (ready_mono hj hji)
      omega
  | succ f ih =>
    intro listed a w hC inv hfree hr H
    have hun := (mem_ready.1 hr).1
    refine ⟨fun h => (by rw [h] at hr; cases hr), fun j hj => ?_⟩
    have hjn : j < n := by
      rcases Nat.lt_or_ge j n with h | h
      · exact h
      · exact absurd hj (tail_waits hs hc hn inv _ i rfl hin hun j h)
    refine ⟨hjn, fun oj hoj => ?_⟩
    by_cases hji : j = i
    · subst hji
      rw [hi] at hoj; cases hoj
      exact H
    · obtain ⟨hjun, oj', hoj', hall⟩ := mem_ready.1 hj
      rw [hoj] at hoj'; cases hoj'
      have hnot : ∀ e ∈ oj.after, Region.binds md e = true → e.on ≠ i := fun e he hb heq => by
        have h1 := hall e he hb
        rw [heq, getD_both hun] at h1
        cases h1
      have h2 := opX_swap (hfree j oj hoj hji hjun hnot) (fun cs b => hsel i oi cs b hi) (fun cs b => hsel j oj cs b hoj) (pair_spec hp hi hoj hji hr hjun hnot) hC
        (opX_mono hC (fun b u _ hb => (hb.2 j (ready_mono hj hji)).2 oj hoj) H)
      refine opX_mono hC (fun b u hu hb => ih (listed.setIfInBounds j true) b u hu (inv.set hj hjn) ?_ (ready_mono hr (Ne.symm hji)) ?_) h2
      · intro k ok hk hki hun' hno
        refine hfree k ok hk hki ?_ hno
        by_cases hjk : j = k
        · subst hjk; exact hjun
        · rw [getD_set_ne true hjk] at hun'; exact hun'
      · rw [Array.setIfInBounds_comm _ _ hji]
        exact hb

/-- the operations in the order of the text -/
def wpX (P : Program) (C : World → Prop) (W : Nat → Bool) (ops : Array Oper) (T : Act → World → Prop) : Nat → List Oper → Act → World → Prop
  | _, [], a, w => T a w
  | n, o :: rest, a, w => opX P C W ops n o (wpX P C W ops T (n + 1) rest) a w

theorem wpAnyX_lex {n g : Nat} {T : Act → World → Prop} (hsel : Region.noSelect ops = true) (hp : pairB md ops W = true) (hs : Region.sinkB md ops n = true) (hc : Region.chainB md ops n = true) (hn : n < ops.size) :
    ∀ (l : List Oper) (k : Nat) (listed : Array Bool) (a : Act) (w : World), C w → (∀ j, j < l.length → l[j]? = ops[k + j]?) → k + l.length = n → HeadInv md ops n listed →
    Region.lexHead md ops g l.length k listed = true → wpX P C W ops T k l a w →
    wpAnyX P md C W ops n (fun listed' a' w' => Region.seqB md ops g n listed' = true ∧ T a' w') l.length listed a w
  | [], k, listed, a, w, _, _, hk, _, hB, h => by
    have : k = n := by simpa using hk
    subst this
    exact ⟨by simpa [Region.lexHead] using hB, h⟩
  | o :: l, k, listed, a, w, hC, hl, hk, inv, hB, h => by
    have h0 : ops[k]? = some o := by simpa using (hl 0 (by simp)).symm
    simp only [List.length_cons, Region.lexHead, Bool.and_eq_true] at hB
    obtain ⟨⟨hr, hf⟩, hB'⟩ := hB
    have hkn : k < n := by simp only [List.length_cons] at hk; omega
    have hr' : k ∈ Region.ready md ops listed := by simpa using hr
    refine wpAnyX_first h0 (Region.noSelect_spec hsel) hp hs hc hn hkn (fun listed' a' w' hL => seqB_ready hL.1) l.length listed a w hC inv (Region.free_spec h0 hf) hr' ?_
    exact opX_mono hC (fun b u hu hb => wpAnyX_lex hsel hp hs hc hn l (k + 1) _ b u hu (fun j hj => by have := hl (j + 1) (by simp; omega); simpa [Nat.add_assoc, Nat.add_comm 1 j] using this) (by simp only [List.length_cons] at hk; omega) (inv.set hr' hkn) hB' hb) h

/-- THE REGION, WHATEVER THE ORDER, OUT OF ONE WALK IN THE ORDER OF THE TEXT: 'n' operations, then the tail. -/
theorem wp_region_X {id : Nat} {Q : Exit → Act → World → Prop} {a : Act} {w : World} {l : List Oper} (n : Nat) (C : World → Prop) (W : Nat → Bool) (hm : P.follows .mixedOrders = true) (hB : (Region.lexTailB .any l.toArray n && pairB .any l.toArray W) = true) (hC : C w.drew)
    (h : wpX P C W l.toArray (fun a' w' => wpList P l.toArray Q (l.drop n) a' w') 0 (l.take n) a w.drew) : (Code.region id l.toArray true).wp P Q a w := by
  simp only [Region.lexTailB, Bool.and_eq_true, decide_eq_true_eq] at hB
  obtain ⟨⟨⟨⟨⟨hsel, hn⟩, hs⟩, hc⟩, hlex⟩, hp⟩ := hB
  have hn' : n < l.length := by simpa using hn
  have htl : (l.take n).length = n := by simp; omega
  have hdl : (l.drop n).length = l.toArray.size - n := by simp
  have inv0 : HeadInv .any l.toArray n (Array.replicate l.toArray.size false) :=
    ⟨by simp, fun j oj _ hl => (by rw [getD_replicate_false] at hl; cases hl), fun t _ ht => getD_in (by simpa using ht) (getD_replicate_false _ _)⟩
  have H := wpAnyX_lex (md := .any) (g := l.toArray.size - n) hsel hp hs hc hn (l.take n) 0 _ a w.drew hC (fun j hj => by
    have hj' : j < n := by rw [htl] at hj; exact hj
    simp [hj']) (by simpa using htl) inv0 (by rw [htl]; exact hlex) h
  refine wp_region_any hm ?_
  have := wpAny_of_X (Q' := Q) (g := l.toArray.size - n) (fun listed a' w' _ hL => by
    have := wpAny_of_seq (md := .any) (Q' := Q) (l.drop n) n listed a' w' (fun j => by simp [List.getElem?_drop]) (by rw [hdl]; exact hL.1) hL.2
    rwa [hdl] at this) _ _ _ _ hC H
  rw [htl, show n + (l.toArray.size - n) = l.toArray.size by omega] at this
  exact this

theorem wpX_nil {T : Act → World → Prop} {n : Nat} {a : Act} {w : World} (h : T a w) : wpX P C W ops T n [] a w := h
theorem wpX_step {T : Act → World → Prop} {n : Nat} {a : Act} {w : World} {o : Oper} {rest : List Oper}
    (h : ∀ K : Act → World → Prop, (∀ a w, wpX P C W ops T (n + 1) rest a w → K a w) → opX P C W ops n o K a w) : wpX P C W ops T n (o :: rest) a w := h _ fun _ _ h => h
/-- an operation that reads -/
theorem opX_free {n : Nat} {o : Oper} {K : Act → World → Prop} {a : Act} {w : World} (hw : Region.wanted o (yielded ops a.tmps) = true) (hW : W n = false) (hp : plainOp o = true) (h : o.quiet P a C (fun b => K b w)) : opX P C W ops n o K a w := by
  unfold opX
  rw [if_pos hw, hW]
  obtain ⟨v, hv, hk⟩ := h
  refine ⟨v, fun w hw' => ?_, hk⟩
  have h1 := hv w hw'
  unfold Oper.quietAt at h1
  have hne := fun w' f args => no_enter (P := P) hp a.eval w w' f args
  generalize (execOp a.eval o).run P w = r at h1 hne
  cases r with
  | halt x w' => exact h1.elim
  | ok n w' =>
    cases n with
    | value u => exact h1
    | skip => exact ⟨h1.1, h1.2.symm⟩
    | enter f args => exact absurd rfl (hne _ _ _)
    | _ => exact h1.elim
/-- one value in every world of the class -/
theorem opX_one {n : Nat} {o : Oper} {K : Act → World → Prop} {a : Act} {w : World} (v : Value) (hw : Region.wanted o (yielded ops a.tmps) = true) (hW : W n = false) (h : ∀ w', C w' → oneOk w' v ((execOp a.eval o).run P w')) (hk : K (a.put o.dst v) w) : opX P C W ops n o K a w := by
  unfold opX
  rw [if_pos hw, hW]
  exact ⟨v, h, hk⟩
/-- a pointer that is not nil -/
theorem opX_nil {n : Nat} {o : Oper} {K : Act → World → Prop} {a : Act} {w : World} {x : Operand} {p : Addr} (hop : o.op = .nilCheck x) (hx : a.eval x = .pointer (some p)) (hw : Region.wanted o (yielded ops a.tmps) = true) (hW : W n = false) (hk : K (a.put o.dst (.pointer (some p))) w) : opX P C W ops n o K a w :=
  opX_one _ hw hW (fun w' _ => by simp [execOp, hop, hx, oneOk]) hk
/-- 'm[k]' of a map that the writers keep -/
theorem opX_look {n : Nat} {o : Oper} {K : Act → World → Prop} {a : Act} {w : World} {t : TypeId} {m x : Operand} {b : Nat} {key v : Value} {ok : Bool} (hop : o.op = .lookup t m x ok) (hm : a.eval m = .map (some b)) (hx : a.eval x = key) (hw : Region.wanted o (yielded ops a.tmps) = true) (hW : W n = false)
    (h : ∀ w', C w' → (Instr.lookup t (.map (some b)) key ok).run P w' = .ok v w') (hk : K (a.put o.dst v) w) : opX P C W ops n o K a w :=
  opX_one _ hw hW (fun w' hw' => by simp [execOp, hop, hm, hx, h w' hw', oneOk, Result.andThen]) hk
theorem opX_skip {n : Nat} {o : Oper} {K : Act → World → Prop} {a : Act} {w : World} (hw : Region.wanted o (yielded ops a.tmps) = false) (h : K (a.put o.dst undef) w) : opX P C W ops n o K a w := by
  unfold opX
  rw [if_neg (by rw [hw]; decide)]
  exact h
/-- an operation that writes, by a law of the walk -/
theorem opX_law {n : Nat} {o : Oper} {K : Act → World → Prop} {a : Act} {w : World} (hw : Region.wanted o (yielded ops a.tmps) = true) (hW : W n = true) (h : wpList P ops (Nq fun a' w' => C w' ∧ K a' w') [o] a w) : opX P C W ops n o K a w := by
  unfold opX
  rw [if_pos hw, if_pos hW]
  unfold wpList at h
  rw [if_pos hw] at h
  rcases h with h | ⟨_, h⟩
  · unfold Oper.wp at h ⊢
    generalize (execOp a.eval o).run P w = r at h
    cases r with
    | halt x w' => cases x <;> exact h.elim
    | ok n w' =>
      cases n with
      | value u => exact h
      | skip => exact h
      | defer q => exact h
      | enter f args =>
        refine Calls.mono h (fun e w'' he => ?_)
        cases e with
        | returned u => exact he
        | panicked c => exact he.elim
        | outgrown => exact absurd he nq_out
      | row r args => exact Rows.mono h (fun u w'' he => he)
      | _ => exact h.elim
  · exact absurd h nq_out
end

/-- the worlds that hold certain blocks as 'W' does -/
def Keeps (S : Nat → Prop) (W w : World) : Prop := ∀ b, S b → w.heap[b]? = W.heap[b]?
theorem Keeps.refl (S : Nat → Prop) (W : World) : Keeps S W W := fun _ _ => rfl
theorem Keeps.trans {S : Nat → Prop} {a b c : World} (h : Keeps S a b) (k : Keeps S b c) : Keeps S a c := fun i hi => (k i hi).trans (h i hi)
open Classical in
noncomputable def kept (S : Nat → Prop) (W u : World) : World := if Keeps S W u then u else W
theorem kept_keeps (S : Nat → Prop) (W u : World) : Keeps S W (kept S W u) := by
  unfold kept
  split
  · assumption
  · exact Keeps.refl _ _
theorem kept_of {S : Nat → Prop} {W w : World} (h : Keeps S W w) : ∃ u, w = kept S W u := ⟨w, by unfold kept; rw [if_pos h]⟩
theorem heap_kept {S : Nat → Prop} {W u : World} {b : Nat} (h : S b) : (kept S W u).heap[b]? = W.heap[b]? := kept_keeps S W u b h
@[go_sem] theorem cell_kept {S : Nat → Prop} {W u : World} {p : Addr} (h : S p.block) : (kept S W u).cell? p = W.cell? p := by
  unfold World.cell?; rw [heap_kept h]
@[go_sem] theorem frozen_kept {S : Nat → Prop} {W u : World} {p : Addr} (h : S p.block) : (kept S W u).frozen? p = W.frozen? p := by
  unfold World.frozen?; rw [heap_kept h]
theorem Keeps.alloc {S : Nat → Prop} {w : World} (o : Obj) (h : ∀ b, S b → b < w.heap.size) : Keeps S w (w.alloc o) := fun b hb => Below.heap_alloc _ _ _ (h b hb)
theorem Keeps.grown {S : Nat → Prop} {w w' : World} {row : Option Nat} (hg : w.grownBy w' row) (h : ∀ b, S b → b < w.heap.size) (hr : ∀ g, row = some g → ¬ S g) : Keeps S w w' :=
  fun b hb => hg.block b (h b hb) (fun e => hr b e.symm hb)
end Go.Proofs.YtpchhfhmopmagaaGreat.Lx

/- A region whose order is open, walked once: the writers in a chain of steps (each waits for the one ahead, through other operations too). -/
namespace Go.Proofs.YtpchhfhmopmagaaGreat.Lx
open Go.RowKit Rel
section
variable {P : Program} {ops : Array Oper} {md : Region.Mode} {C : World → Prop} {W : Nat → Bool}

/-- j waits for i, through so many operations at most -/
def reachB (md : Region.Mode) (ops : Array Oper) : Nat → Nat → Nat → Bool
  | 0, _, _ => false
  | f + 1, j, i => match ops[j]? with
    | none => false
    | some o => o.after.any (fun e => Region.binds md e && (e.on == i || reachB md ops f e.on i))
/-- each waits for the one ahead -/
def chainW (md : Region.Mode) (ops : Array Oper) : List Nat → Bool
  | [] => true
  | [_] => true
  | a :: b :: l => reachB md ops 5 b a && chainW md ops (b :: l)
theorem reach_listed {n : Nat} {listed : Array Bool} (inv : HeadInv md ops n listed) : ∀ (f j i : Nat) (o : Oper), ops[j]? = some o → (∀ e ∈ o.after, Region.binds md e = true → listed.getD e.on false = true) → reachB md ops f j i = true → listed.getD i false = true
  | 0, _, _, _, _, _, h => by cases h
  | f + 1, j, i, o, ho, hall, h => by
    unfold reachB at h
    rw [ho] at h
    obtain ⟨e, he, h⟩ := Array.any_eq_true'.1 h
    simp only [Bool.and_eq_true, Bool.or_eq_true, beq_iff_eq] at h
    obtain ⟨hb, h | h⟩ := h
    · have := hall _ he hb
      rw [h] at this; exact this
    · have hl := hall _ he hb
      cases ho2 : ops[e.on]? with
      | none => cases f with
        | zero => cases h
        | succ f => unfold reachB at h; rw [ho2] at h; cases h
      | some o2 => exact reach_listed inv f _ i o2 ho2 (inv.closed _ _ ho2 hl) h
theorem chain_head {n : Nat} {listed : Array Bool} (inv : HeadInv md ops n listed) : ∀ (l : List Nat) (a : Nat), chainW md ops (a :: l) = true → ∀ x ∈ l, (∃ o, ops[x]? = some o ∧ ∀ e ∈ o.after, Region.binds md e = true → listed.getD e.on false = true) → listed.getD a false = true
  | [], _, _, _, hx, _ => by cases hx
  | b :: l, a, h, x, hx, ⟨o, ho, hall⟩ => by
    simp only [chainW, Bool.and_eq_true] at h
    rcases List.mem_cons.1 hx with rfl | hx
    · exact reach_listed inv 5 x a o ho hall h.1
    · have hb := chain_head inv l b h.2 x hx ⟨o, ho, hall⟩
      cases ho2 : ops[b]? with
      | none => have h1 := h.1; unfold reachB at h1; rw [ho2] at h1; cases h1
      | some o2 => exact reach_listed inv 5 b a o2 ho2 (inv.closed _ _ ho2 hb) h.1
theorem ready_pre {j : Nat} {listed : Array Bool} (h : j ∈ Region.ready md ops listed) : (∃ o, ops[j]? = some o ∧ ∀ e ∈ o.after, Region.binds md e = true → listed.getD e.on false = true) ∧ listed.getD j false = false := by
  obtain ⟨h1, o, ho, hall⟩ := mem_ready.1 h
  exact ⟨⟨o, ho, hall⟩, getD_both h1⟩
theorem chain_tail {a : Nat} {l : List Nat} (h : chainW md ops (a :: l) = true) : chainW md ops l = true := by
  cases l with
  | nil => rfl
  | cons b l => simp only [chainW, Bool.and_eq_true] at h; exact h.2
theorem chain_pair {n : Nat} {listed : Array Bool} (inv : HeadInv md ops n listed) : ∀ (ws : List Nat), chainW md ops ws = true → ∀ i j, i ∈ ws → j ∈ ws → i ≠ j → i ∈ Region.ready md ops listed → j ∈ Region.ready md ops listed → False
  | [], _, _, _, hi, _, _, _, _ => by cases hi
  | a :: l, h, i, j, hi, hj, hne, ri, rj => by
    rcases List.mem_cons.1 hi with e1 | hi2
    · rcases List.mem_cons.1 hj with e2 | hj2
      · exact hne (e1.trans e2.symm)
      · subst e1
        have h1 := chain_head inv l i h j hj2 (ready_pre rj).1
        rw [(ready_pre ri).2] at h1; cases h1
    · rcases List.mem_cons.1 hj with e2 | hj2
      · subst e2
        have h1 := chain_head inv l j h i hi2 (ready_pre ri).1
        rw [(ready_pre rj).2] at h1; cases h1
      · exact chain_pair inv l (chain_tail h) i j hi2 hj2 hne ri rj
theorem chain_W {n : Nat} {listed : Array Bool} (inv : HeadInv md ops n listed) {ws : List Nat} (h : chainW md ops ws = true) {i j : Nat} (ri : i ∈ Region.ready md ops listed) (rj : j ∈ Region.ready md ops listed) (hne : i ≠ j) : ws.contains i = false ∨ ws.contains j = false := by
  cases hi : ws.contains i with
  | false => exact .inl rfl
  | true =>
    cases hj : ws.contains j with
    | false => exact .inr rfl
    | true => exact (chain_pair inv ws h i j (by simpa using hi) (by simpa using hj) hne ri rj).elim

theorem wpAnyY_first {n i : Nat} {oi : Oper} {L : Array Bool → Act → World → Prop} (hi : ops[i]? = some oi) (hsel : ∀ (j : Nat) (o : Oper) cs b, ops[j]? = some o → o.op ≠ .select cs b) (hp : ∀ listed i j, HeadInv md ops n listed → i ∈ Region.ready md ops listed → j ∈ Region.ready md ops listed → i ≠ j → W i = false ∨ W j = false)
    (hs : Region.sinkB md ops n = true) (hc : Region.chainB md ops n = true) (hn : n < ops.size) (hin : i < n)
    (hdone : ∀ listed a w, L listed a w → ∀ j ∈ Region.ready md ops listed, n ≤ j) :
    ∀ (f : Nat) (listed : Array Bool) (a : Act) (w : World), C w → HeadInv md ops n listed →
      (∀ j oj, ops[j]? = some oj → j ≠ i → listed.getD j true = false → (∀ e ∈ oj.after, Region.binds md e = true → e.on ≠ i) → oi.apart ops oj = true) →
      i ∈ Region.ready md ops listed → opX P C W ops i oi (wpAnyX P md C W ops n L f (listed.setIfInBounds i true)) a w → wpAnyX P md C W ops n L (f + 1) listed a w := by
  intro f
  induction f with
  | zero =>
    intro listed a w hC inv _ hr H
    have hun := (mem_ready.1 hr).1
    refine ⟨fun h => (by rw [h] at hr; cases hr), fun j hj => ?_⟩
    have hjn : j < n := by
      rcases Nat.lt_or_ge j n with h | h
      · exact h
      · exact absurd hj (tail_waits hs hc hn inv _ i rfl hin hun j h)
    refine ⟨hjn, fun oj hoj => ?_⟩
    by_cases hji : j = i
    · subst hji
      rw [hi] at hoj; cases hoj
      exact H
    · exfalso
      obtain ⟨a', w', ha'⟩ := opX_some H
      have := hdone _ _ _ ha' j (ready_mono hj hji)
      omega
  | succ f ih =>
    intro listed a w hC inv hfree hr H
    have hun := (mem_ready.1 hr).1
    refine ⟨fun h => (by rw [h] at hr; cases hr), fun j hj => ?_⟩
    have hjn : j < n := by
      rcases Nat.lt_or_ge j n with h | h
      · exact h
      · exact absurd hj (tail_waits hs hc hn inv _ i rfl hin hun j h)
    refine ⟨hjn, fun oj hoj => ?_⟩
    by_cases hji : j = i
    · subst hji
      rw [hi] at hoj; cases hoj
      exact H
    · obtain ⟨hjun, oj', hoj', hall⟩ := mem_ready.1 hj
      rw [hoj] at hoj'; cases hoj'
      have hnot : ∀ e ∈ oj.after, Region.binds md e = true → e.on ≠ i := fun e he hb heq => by
        have h1 := hall e he hb
        rw [heq, getD_both hun] at h1
        cases h1
      have h2 := opX_swap (hfree j oj hoj hji hjun hnot) (fun cs b => hsel i oi cs b hi) (fun cs b => hsel j oj cs b hoj) (hp listed i j inv hr hj (Ne.symm hji)) hC
        (opX_mono hC (fun b u _ hb => (hb.2 j (ready_mono hj hji)).2 oj hoj) H)
      refine opX_mono hC (fun b u hu hb => ih (listed.setIfInBounds j true) b u hu (inv.set hj hjn) ?_ (ready_mono hr (Ne.symm hji)) ?_) h2
      · intro k ok hk hki hun' hno
        refine hfree k ok hk hki ?_ hno
        by_cases hjk : j = k
        · subst hjk; exact hjun
        · rw [getD_set_ne true hjk] at hun'; exact hun'
      · rw [Array.setIfInBounds_comm _ _ hji]
        exact hb

theorem wpAnyY_lex {n g : Nat} {T : Act → World → Prop} (hsel : Region.noSelect ops = true) (hp : ∀ listed i j, HeadInv md ops n listed → i ∈ Region.ready md ops listed → j ∈ Region.ready md ops listed → i ≠ j → W i = false ∨ W j = false) (hs : Region.sinkB md ops n = true) (hc : Region.chainB md ops n = true) (hn : n < ops.size) :
    ∀ (l : List Oper) (k : Nat) (listed : Array Bool) (a : Act) (w : World), C w → (∀ j, j < l.length → l[j]? = ops[k + j]?) → k + l.length = n → HeadInv md ops n listed →
    Region.lexHead md ops g l.length k listed = true → wpX P C W ops T k l a w →
    wpAnyX P md C W ops n (fun listed' a' w' => Region.seqB md ops g n listed' = true ∧ T a' w') l.length listed a w
  | [], k, listed, a, w, _, _, hk, _, hB, h => by
    have : k = n := by simpa using hk
    subst this
    exact ⟨by simpa [Region.lexHead] using hB, h⟩
  | o :: l, k, listed, a, w, hC, hl, hk, inv, hB, h => by
    have h0 : ops[k]? = some o := by simpa using (hl 0 (by simp)).symm
    simp only [List.length_cons, Region.lexHead, Bool.and_eq_true] at hB
    obtain ⟨⟨hr, hf⟩, hB'⟩ := hB
    have hkn : k < n := by simp only [List.length_cons] at hk; omega
    have hr' : k ∈ Region.ready md ops listed := by simpa using hr
    refine wpAnyY_first h0 (Region.noSelect_spec hsel) hp hs hc hn hkn (fun listed' a' w' hL => seqB_ready hL.1) l.length listed a w hC inv (Region.free_spec h0 hf) hr' ?_
    exact opX_mono hC (fun b u hu hb => wpAnyY_lex hsel hp hs hc hn l (k + 1) _ b u hu (fun j hj => by have := hl (j + 1) (by simp; omega); simpa [Nat.add_assoc, Nat.add_comm 1 j] using this) (by simp only [List.length_cons] at hk; omega) (inv.set hr' hkn) hB' hb) h

/-- THE REGION, WHATEVER THE ORDER, OUT OF ONE WALK IN THE ORDER OF THE TEXT: 'n' operations, then the tail. -/
theorem wp_region_Y {id : Nat} {Q : Exit → Act → World → Prop} {a : Act} {w : World} {l : List Oper} (n : Nat) (C : World → Prop) (ws : List Nat) (hm : P.follows .mixedOrders = true) (hB : (Region.lexTailB .any l.toArray n && chainW .any l.toArray ws) = true) (hC : C w.drew)
    (h : wpX P C (fun i => ws.contains i) l.toArray (fun a' w' => wpList P l.toArray Q (l.drop n) a' w') 0 (l.take n) a w.drew) : (Code.region id l.toArray true).wp P Q a w := by
  simp only [Region.lexTailB, Bool.and_eq_true, decide_eq_true_eq] at hB
  obtain ⟨⟨⟨⟨⟨hsel, hn⟩, hs⟩, hc⟩, hlex⟩, hp⟩ := hB
  have hn' : n < l.length := by simpa using hn
  have htl : (l.take n).length = n := by simp; omega
  have hdl : (l.drop n).length = l.toArray.size - n := by simp
  have inv0 : HeadInv .any l.toArray n (Array.replicate l.toArray.size false) :=
    ⟨by simp, fun j oj _ hl => (by rw [getD_replicate_false] at hl; cases hl), fun t _ ht => getD_in (by simpa using ht) (getD_replicate_false _ _)⟩
  have H := wpAnyY_lex (md := .any) (W := fun i => ws.contains i) (g := l.toArray.size - n) hsel (fun listed i j inv hi hj hne => chain_W inv hp hi hj hne) hs hc hn (l.take n) 0 _ a w.drew hC (fun j hj => by
    have hj' : j < n := by rw [htl] at hj; exact hj
    simp [hj']) (by simpa using htl) inv0 (by rw [htl]; exact hlex) h
  refine wp_region_any hm ?_
  have := wpAny_of_X (Q' := Q) (g := l.toArray.size - n) (fun listed a' w' _ hL => by
    have := wpAny_of_seq (md := .any) (Q' := Q) (l.drop n) n listed a' w' (fun j => by simp [List.getElem?_drop]) (by rw [hdl]; exact hL.1) hL.2
    rwa [hdl] at this) _ _ _ _ hC H
  rw [htl, show n + (l.toArray.size - n) = l.toArray.size by omega] at this
  exact this

end
end Go.Proofs.YtpchhfhmopmagaaGreat.Lx

/- Regions of open order inside a round of a range over a function: by the walk of Lx (generic). -/
namespace Go.Proofs.YtpchhfhmopmagaaGreat.Lx
open Go.RowKit Rel
section
variable {P : Program} {ops : Array Oper} {md : Region.Mode} {C : World → Prop} {W : Nat → Bool} {lr m : Nat} {Q : Exit → Act → World → Prop}

theorem upon_in {o : Oper} {a : Act} {K K' : Act → World → Prop} (hk : ∀ a w, K a w → K' a w) (r : Result Next) (h : o.upon P a K Q r) : o.uponIn (Fence.wide.inRound lr) m P a K' Q r := by
  cases r with
  | halt x w' => cases x <;> exact h
  | ok nx w' =>
    cases nx with
    | value v => exact hk _ _ h
    | skip => exact hk _ _ h
    | defer d => exact hk _ _ h
    | enter f args =>
      refine ⟨fun hd => by simp [Fence.wide] at hd, CallsIn.inRound lr (callsIn_wide.2 (Calls.mono h ?_))⟩
      intro e w'' he
      cases e with
      | returned v => exact hk _ _ he
      | panicked ch => exact he
      | outgrown => exact he
    | row row args =>
      refine ⟨fun hd => by simp [Fence.wide] at hd, fun c cs _ => ?_⟩
      obtain ⟨v, w', r, s⟩ := h c cs
      exact ⟨v, w', hk _ _ r, stepsIn_wide.2 s⟩
    | _ => exact h.elim
theorem wp_in {o : Oper} {a : Act} {w : World} {K K' : Act → World → Prop} (hd : ∀ c : Call, o.op ≠ Op.defer c) (hk : ∀ a w, K a w → K' a w) (h : o.wp P a w K Q) : o.wpIn (Fence.wide.inRound lr) m P a w K' Q := by
  refine ⟨fun _ _ => trivial, ?_⟩
  rw [Oper.semAt_eq _ _ _ hd]
  exact upon_in hk _ h
theorem any_in (hq : ¬ LetsOut Q) (hd : ∀ (i : Nat) (o : Oper), ops[i]? = some o → ∀ c : Call, o.op ≠ Op.defer c) : ∀ (fuel : Nat) (listed : Array Bool) (a : Act) (w : World), wpAny P md ops Q fuel listed a w → wpAnyIn (Fence.wide.inRound lr) m P md ops Q fuel listed a w
  | 0, listed, a, w, h => h
  | fuel + 1, listed, a, w, h => by
    refine ⟨h.1, fun i hi => ?_⟩
    have h2 := h.2 i hi
    unfold wpOp at h2
    unfold wpOpIn
    cases ho : ops[i]? with
    | none =>
      rw [ho] at h2
      exact any_in hq hd fuel _ _ _ h2
    | some o =>
      rw [ho] at h2
      simp only at h2 ⊢
      split
      · rename_i hw
        rw [if_pos hw] at h2
        rcases h2 with h2 | ⟨_, h2⟩
        · exact wp_in (hd i o ho) (fun a w hh => any_in hq hd fuel _ a w hh) h2
        · exact absurd h2 hq
      · rename_i hw
        rw [if_neg hw] at h2
        exact ⟨fun _ _ => trivial, any_in hq hd fuel _ _ _ h2⟩
def noDefer (l : List Oper) : Bool := l.all fun o => match o.op with | .defer _ => false | _ => true
theorem noDefer_spec {l : List Oper} (h : noDefer l = true) (i : Nat) (o : Oper) (ho : l.toArray[i]? = some o) (c : Call) : o.op ≠ Op.defer c := by
  intro e
  have hm : o ∈ l := List.mem_of_getElem? (by simpa using ho)
  have := List.all_eq_true.1 h o hm
  rw [e] at this
  cases this
/-- the region inside a round -/
theorem wpIn_round_X {id : Nat} {a : Act} {w : World} {l : List Oper} (n : Nat) (C : World → Prop) (W : Nat → Bool) (hm : P.follows .mixedOrders = true) (hB : (Region.lexTailB .any l.toArray n && pairB .any l.toArray W && noDefer l) = true) (hq : ¬ LetsOut Q) (hC : C w.drew)
    (h : wpX P C W l.toArray (fun a' w' => wpList P l.toArray Q (l.drop n) a' w') 0 (l.take n) a w.drew) : (Code.region id l.toArray true).wpIn (Fence.wide.inRound lr) m P Q a w := by
  simp only [Region.lexTailB, Bool.and_eq_true, decide_eq_true_eq] at hB
  obtain ⟨⟨⟨⟨⟨⟨hsel, hn⟩, hs⟩, hc⟩, hlex⟩, hp⟩, hnd⟩ := hB
  have hn' : n < l.length := by simpa using hn
  have htl : (l.take n).length = n := by simp; omega
  have hdl : (l.drop n).length = l.toArray.size - n := by simp
  have inv0 : HeadInv .any l.toArray n (Array.replicate l.toArray.size false) :=
    ⟨by simp, fun j oj _ hl => (by rw [getD_replicate_false] at hl; cases hl), fun t _ ht => getD_in (by simpa using ht) (getD_replicate_false _ _)⟩
  have H := wpAnyX_lex (md := .any) (g := l.toArray.size - n) hsel hp hs hc hn (l.take n) 0 _ a w.drew hC (fun j hj => by
    have hj' : j < n := by rw [htl] at hj; exact hj
    simp [hj']) (by simpa using htl) inv0 (by rw [htl]; exact hlex) h
  refine wpIn_region_any hm (any_in hq (noDefer_spec hnd) _ _ _ _ ?_)
  have := wpAny_of_X (Q' := Q) (g := l.toArray.size - n) (fun listed a' w' _ hL => by
    have := wpAny_of_seq (md := .any) (Q' := Q) (l.drop n) n listed a' w' (fun j => by simp [List.getElem?_drop]) (by rw [hdl]; exact hL.1) hL.2
    rwa [hdl] at this) _ _ _ _ hC H
  rw [htl, show n + (l.toArray.size - n) = l.toArray.size by omega] at this
  exact this
end
end Go.Proofs.YtpchhfhmopmagaaGreat.Lx

/- Regions of open order inside a round, their writers in a chain of steps (generic). -/
namespace Go.Proofs.YtpchhfhmopmagaaGreat.Lx
open Go.RowKit Rel
section
variable {P : Program} {ops : Array Oper} {md : Region.Mode} {lr m : Nat} {Q : Exit → Act → World → Prop}

theorem wpIn_round_Y {id : Nat} {a : Act} {w : World} {l : List Oper} (n : Nat) (C : World → Prop) (ws : List Nat) (hm : P.follows .mixedOrders = true) (hB : (Region.lexTailB .any l.toArray n && chainW .any l.toArray ws && noDefer l) = true) (hq : ¬ LetsOut Q) (hC : C w.drew)
    (h : wpX P C (fun i => ws.contains i) l.toArray (fun a' w' => wpList P l.toArray Q (l.drop n) a' w') 0 (l.take n) a w.drew) : (Code.region id l.toArray true).wpIn (Fence.wide.inRound lr) m P Q a w := by
  simp only [Region.lexTailB, Bool.and_eq_true, decide_eq_true_eq] at hB
  obtain ⟨⟨⟨⟨⟨⟨hsel, hn⟩, hs⟩, hc⟩, hlex⟩, hp⟩, hnd⟩ := hB
  have hn' : n < l.length := by simpa using hn
  have htl : (l.take n).length = n := by simp; omega
  have hdl : (l.drop n).length = l.toArray.size - n := by simp
  have inv0 : HeadInv .any l.toArray n (Array.replicate l.toArray.size false) :=
    ⟨by simp, fun j oj _ hl => (by rw [getD_replicate_false] at hl; cases hl), fun t _ ht => getD_in (by simpa using ht) (getD_replicate_false _ _)⟩
  have H := wpAnyY_lex (md := .any) (W := fun i => ws.contains i) (g := l.toArray.size - n) hsel (fun listed i j inv hi hj hne => chain_W inv hp hi hj hne) hs hc hn (l.take n) 0 _ a w.drew hC (fun j hj => by
    have hj' : j < n := by rw [htl] at hj; exact hj
    simp [hj']) (by simpa using htl) inv0 (by rw [htl]; exact hlex) h
  refine wpIn_region_any hm (any_in hq (noDefer_spec hnd) _ _ _ _ ?_)
  have := wpAny_of_X (Q' := Q) (g := l.toArray.size - n) (fun listed a' w' _ hL => by
    have := wpAny_of_seq (md := .any) (Q' := Q) (l.drop n) n listed a' w' (fun j => by simp [List.getElem?_drop]) (by rw [hdl]; exact hL.1) hL.2
    rwa [hdl] at this) _ _ _ _ hC H
  rw [htl, show n + (l.toArray.size - n) = l.toArray.size by omega] at this
  exact this
end
end Go.Proofs.YtpchhfhmopmagaaGreat.Lx
