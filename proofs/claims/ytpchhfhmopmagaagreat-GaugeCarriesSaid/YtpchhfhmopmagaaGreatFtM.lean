/- The filters' table in the making. ftable.order, ftable.of. ftable.of. ftable.New. ftable.Table.All, Len. -/
import Derived.Test.YtpchhfhmopmagaaGreatFi2
import Derived.Test.YtpchhfhmopmagaaGreatFi5
import Derived.Test.YtpchhfhmopmagaaGreatMr1
import Derived.Test.YtpchhfhmopmagaaGreatTr5
set_option linter.unusedVariables false
set_option linter.unusedSimpArgs false
/- The filters' table in the making. -/
namespace Go.Proofs.YtpchhfhmopmagaaGreat.Fi
open Go.RowKit Go.Maps Go.Proofs.YtpchhfhmopmagaaGreat.Wd Go.Proofs.YtpchhfhmopmagaaGreat.Li Go.Proofs.YtpchhfhmopmagaaGreat.Mp Go.Proofs.YtpchhfhmopmagaaGreat.Tr

/-- the table at T in the making, its map at h, what it has for each protocol, and the rest -/
structure Tb (w : World) (T h base : Nat) (A : Option Addr) (m c : Nat) (s : Sv) (kf : Int → Option Sv) (R : Int → List Int) (r : List Int) : Prop where
  cell : w.heap[T]? = some (.cells #[.slice A m c, .map (some h), s.val] 215 (0, 0))
  row : ∀ p, w.ownsRow base 3 1 ((kf p).getD Sv.nil).val (R p).length (St.I (R p))
  rest : w.ownsRow base 3 1 s.val r.length (St.I r)
  ap : ∀ p q, p ≠ q → rowOf kf p = none ∨ rowOf kf p ≠ rowOf kf q
  api : ∀ p, rowOf kf p = none ∨ rowOf kf p ≠ s.g
  hT : T < base
  hh : h < base
  ne : h ≠ T
section
variable {w u ua u2 w' : World} {T h base : Nat} {A : Option Addr} {m c : Nat} {s : Sv} {kf : Int → Option Sv} {R : Int → List Int} {r : List Int}
theorem Tb.same (b : Tb w T h base A m c s kf R r) (hb : ∀ g, g < w.heap.size → g ≠ h → w'.heap[g]? = w.heap[g]?) : Tb w' T h base A m c s kf R r where
  cell := (hb _ (lt_get b.cell) (Ne.symm b.ne)).trans b.cell
  row := fun p => own_same (b.row p) fun g hg => hb g ((b.row p).lt g hg).2 (by have := ((b.row p).lt g hg).1; have := b.hh; omega)
  rest := own_same b.rest fun g hg => hb g (b.rest.lt g hg).2 (by have := (b.rest.lt g hg).1; have := b.hh; omega)
  ap := b.ap
  api := b.api
  hT := b.hT
  hh := b.hh
  ne := b.ne
theorem Tb.row_lt (b : Tb w T h base A m c s kf R r) {p : Int} {g : Nat} (hg : rowOf kf p = some g) : base ≤ g ∧ g < w.heap.size := (b.row p).lt g (by rw [own_val]; exact hg)
theorem Tb.rest_lt (b : Tb w T h base A m c s kf R r) {g : Nat} (hg : s.g = some g) : base ≤ g ∧ g < w.heap.size := b.rest.lt g (by rw [own_val]; exact hg)
/-- a place is appended for protocol p, and noted -/
theorem Tb.push (b : Tb u T h base A m c s kf R r) {p y : Int} {g cap : Nat} {o : Obj}
    (hown : ua.ownsRow base 3 1 (Sv.val ⟨some g, (R p).length + 1, cap⟩) (R p ++ [y]).length (St.I (R p ++ [y])))
    (hg : (u.alloc o).grownBy ua (rowOf kf p)) (hl : rowOf kf p = some g ∨ g = u.heap.size + 1) (hg2 : ua.grownBy u2 (some h)) :
    Tb u2 T h base A m c s (fun i => if i = p then some ⟨some g, (R p).length + 1, cap⟩ else kf i) (fun i => if i = p then R p ++ [y] else R i) r := by
  have hgb : base ≤ g := (hown.lt g rfl).1
  have hT := b.hT; have hh := b.hh; have hTl := lt_get b.cell
  have hua : ∀ q, q < u.heap.size → rowOf kf p ≠ some q → ua.heap[q]? = u.heap[q]? := fun q hq hne => (hg.block q (by simp; omega) (Ne.symm hne)).trans (Below.heap_alloc u o q hq)
  have hus : u.heap.size ≤ ua.heap.size := by have := hg.size; simp at this; omega
  have hall : ∀ q, q < u.heap.size → rowOf kf p ≠ some q → q ≠ h → u2.heap[q]? = u.heap[q]? := fun q hq hne h3 => (hg2.block q (by omega) (fun e => h3 (by injection e))).trans (hua q hq hne)
  have small : ∀ q, q < base → rowOf kf p ≠ some q := fun q hq e => by have := (b.row_lt e).1; omega
  have other : ∀ q, q ≠ p → rowOf kf q = none ∨ rowOf kf q ≠ some g := fun q hne => by
    cases hpp : rowOf kf q with
    | none => exact .inl rfl
    | some k =>
      refine .inr fun e => ?_
      injection e with e
      subst e
      have hr := b.row_lt hpp
      rcases hl with hl | hl
      · rcases b.ap q p hne with h0 | h0
        · rw [h0] at hpp; cases hpp
        · exact h0 (hpp.trans hl.symm)
      · omega
  have hsg : s.g = none ∨ s.g ≠ some g := by
    cases hs : s.g with
    | none => exact .inl rfl
    | some k =>
      refine .inr fun e => ?_
      injection e with e
      subst e
      have hr := b.rest_lt hs
      rcases hl with hl | hl
      · rcases b.api p with h0 | h0
        · rw [h0] at hl; cases hl
        · exact h0 (hl.trans hs.symm)
      · omega
  have new : ∀ q, rowOf (fun i => if i = p then some ⟨some g, (R p).length + 1, cap⟩ else kf i) q = if q = p then some g else rowOf kf q := fun q => by
    unfold rowOf
    by_cases e : q = p
    · simp [e]
    · simp [e]
  refine ⟨(hall _ hTl (small _ hT) (Ne.symm b.ne)).trans b.cell, ?_, ?_, ?_, ?_, hT, hh, b.ne⟩
  · intro q
    by_cases e : q = p
    · subst e
      simp only [if_true, Option.getD_some]
      refine own_same hown fun k hk => hg2.block k ((hown.lt k hk).2) (fun e => ?_)
      injection e with e
      have := (hown.lt k hk).1
      omega
    · simp only [if_neg e]
      refine own_same (b.row q) fun k hk => ?_
      have hk' : rowOf kf q = some k := by rw [own_val] at hk; exact hk
      have hr := b.row_lt hk'
      refine hall k hr.2 (fun e2 => ?_) (by omega)
      rcases b.ap q p e with h0 | h0
      · rw [h0] at hk'; cases hk'
      · exact h0 (hk'.trans e2.symm)
  · refine own_same b.rest fun k hk => ?_
    rw [own_val] at hk
    have hr := b.rest_lt hk
    refine hall k hr.2 (fun e => ?_) (by omega)
    rcases b.api p with h0 | h0
    · rw [h0] at e; cases e
    · exact h0 (e.trans hk.symm)
  · intro q k hqk
    rw [new, new]
    by_cases ep : q = p
    · rw [if_pos ep]
      have eq : k ≠ p := fun e => hqk (ep.trans e.symm)
      rw [if_neg eq]
      rcases other k eq with h0 | h0
      · rw [h0]; exact .inr (fun e => by cases e)
      · exact .inr (fun e => h0 e.symm)
    · rw [if_neg ep]
      by_cases eq : k = p
      · rw [if_pos eq]; exact other q ep
      · rw [if_neg eq]; exact b.ap q k hqk
  · intro q
    rw [new]
    by_cases ep : q = p
    · rw [if_pos ep]
      rcases hsg with h0 | h0
      · rw [h0]; exact .inr (fun e => by cases e)
      · exact .inr (fun e => h0 e.symm)
    · rw [if_neg ep]; exact b.api q
/-- a place is appended to the rest -/
theorem Tb.more (b : Tb u T h base A m c s kf R r) {y : Int} {g cap : Nat} {o : Obj}
    (hown : ua.ownsRow base 3 1 (Sv.val ⟨some g, r.length + 1, cap⟩) (r ++ [y]).length (St.I (r ++ [y])))
    (hg : (u.alloc o).grownBy ua s.g) (hl : s.g = some g ∨ g = u.heap.size + 1) (h2 : u2 = ua.setCell ⟨T, 2, none⟩ (Sv.val ⟨some g, r.length + 1, cap⟩)) :
    Tb u2 T h base A m c ⟨some g, r.length + 1, cap⟩ kf R (r ++ [y]) := by
  have hTl := lt_get b.cell
  have hsb : ∀ q, s.g = some q → base ≤ q := fun q hq => (b.rest_lt hq).1
  have hgb : base ≤ g := (hown.lt g rfl).1
  have hT := b.hT; have hh := b.hh
  have hua : ∀ q, q < u.heap.size → s.g ≠ some q → ua.heap[q]? = u.heap[q]? := fun q hq hne => (hg.block q (by simp; omega) (Ne.symm hne)).trans (Below.heap_alloc u o q hq)
  have hu2 : ∀ q, q ≠ T → u2.heap[q]? = ua.heap[q]? := fun q hq => by rw [h2]; exact Below.heap_setCell _ _ _ _ hq
  have hall : ∀ q, q < u.heap.size → s.g ≠ some q → q ≠ T → u2.heap[q]? = u.heap[q]? := fun q hq hne h3 => (hu2 q h3).trans (hua q hq hne)
  have small : ∀ q, q < base → s.g ≠ some q := fun q hq e => by have := hsb q e; omega
  refine ⟨?_, ?_, ?_, b.ap, ?_, hT, hh, b.ne⟩
  · have hc := (hua T hTl (small _ hT)).trans b.cell
    rw [h2]
    simp [World.setCell, Array.getElem?_modify, hc]
  · intro p
    refine own_same (b.row p) fun q hq => ?_
    have hq' : rowOf kf p = some q := by rw [own_val] at hq; exact hq
    have hr := b.row_lt hq'
    refine hall q hr.2 (fun e => ?_) (by omega)
    rcases b.api p with h0 | h0
    · rw [h0] at hq'; cases hq'
    · exact h0 (hq'.trans e.symm)
  · refine own_same hown fun q hq => hu2 q ?_
    have : q = g := by injection hq with e; exact e.symm
    omega
  · intro p
    rcases b.api p with h0 | h0
    · exact .inl h0
    · cases hp : rowOf kf p with
      | none => exact .inl rfl
      | some q =>
        refine .inr fun e => ?_
        injection e with e
        have hr := b.row_lt hp
        rcases hl with hl | hl
        · rw [hp, e] at h0; exact h0 hl.symm
        · omega
end
/-! which places are for which protocol -/
/-- a filter among the first k asks for protocol p -/
def dmB (fs : List F) (k : Nat) (p : Int) : Bool := (fs.take k).any (fun f => decide (f.proto = p) && decide (0 ≤ f.proto))
theorem dmB_succ {fs : List F} {k : Nat} {f : F} (hf : fs[k]? = some f) (p : Int) : dmB fs (k + 1) p = (dmB fs k p || (decide (f.proto = p) && decide (0 ≤ f.proto))) := by
  unfold dmB
  rw [List.take_add_one, hf, List.any_append]
  simp
theorem dmB_mem {fs : List F} {k : Nat} {p : Int} (h : dmB fs k p = true) : p ∈ fs.map F.proto := by
  unfold dmB at h
  obtain ⟨f, hf, hp⟩ := List.any_eq_true.1 h
  simp only [Bool.and_eq_true, decide_eq_true_eq] at hp
  exact List.mem_map.2 ⟨f, List.mem_of_mem_take hf, hp.1⟩
/-- the places among the first k at which q holds -/
def plc (q : F → Bool) (fs : List F) : Nat → List Int
  | 0 => []
  | k + 1 => plc q fs k ++ (match fs[k]? with | some f => if q f then [(k : Int)] else [] | none => [])
theorem plc_in {q : F → Bool} {fs : List F} {k : Nat} {f : F} (hf : fs[k]? = some f) (h : q f = true) : plc q fs (k + 1) = plc q fs k ++ [(k : Int)] := by
  show plc q fs k ++ _ = _
  rw [hf]; simp [h]
theorem plc_out {q : F → Bool} {fs : List F} {k : Nat} {f : F} (hf : fs[k]? = some f) (h : q f = false) : plc q fs (k + 1) = plc q fs k := by
  show plc q fs k ++ _ = _
  rw [hf]; simp [h]
theorem plc_len (q : F → Bool) (fs : List F) : ∀ k, (plc q fs k).length ≤ k
  | 0 => Nat.le_refl _
  | k + 1 => by
    have := plc_len q fs k
    show (plc q fs k ++ _).length ≤ _
    rw [List.length_append]
    split
    · split <;> simp <;> omega
    · simp; omega
/-- for protocol p: what asks for it, and what asks for any -/
def rowP (fs : List F) (k : Nat) (p : Int) : List Int := if dmB fs fs.length p then plc (fun f => decide (f.proto = p) || decide (f.proto < 0)) fs k else []
def restP (fs : List F) (k : Nat) : List Int := plc (fun f => decide (f.proto < 0)) fs k
theorem rowP_len (fs : List F) (k : Nat) (p : Int) : (rowP fs k p).length ≤ k := by
  unfold rowP
  split
  · exact plc_len _ _ _
  · simp
theorem dm_put {fs : List F} {k : Nat} {f : F} (hf : fs[k]? = some f) (hp : 0 ≤ f.proto) : (fun i => if i = f.proto then some Sv.nil else if dmB fs k i = true then some Sv.nil else none) = fun i => if dmB fs (k + 1) i = true then some Sv.nil else none := by
  funext i
  rw [dmB_succ hf i]
  by_cases e : i = f.proto
  · subst e; simp [hp]
  · have : decide (f.proto = i) = false := decide_eq_false (fun h => e h.symm)
    simp [e, this]
theorem dm_skip {fs : List F} {k : Nat} {f : F} (hf : fs[k]? = some f) (hp : ¬ 0 ≤ f.proto) : dmB fs (k + 1) = dmB fs k := by
  funext i
  rw [dmB_succ hf i]; simp [hp]
theorem dmB_at {fs : List F} {k : Nat} {f : F} (hf : fs[k]? = some f) (hp : 0 ≤ f.proto) : dmB fs fs.length f.proto = true := by
  unfold dmB
  rw [List.take_length]
  exact List.any_eq_true.2 ⟨f, List.mem_of_getElem? hf, by simp [hp]⟩
theorem rowP_put {fs : List F} {k : Nat} {f : F} (hf : fs[k]? = some f) (hp : 0 ≤ f.proto) : (fun i => if i = f.proto then rowP fs k f.proto ++ [(k : Int)] else rowP fs k i) = rowP fs (k + 1) := by
  funext i
  unfold rowP
  by_cases e : i = f.proto
  · subst e
    rw [if_pos rfl, if_pos (dmB_at hf hp), if_pos (dmB_at hf hp), plc_in hf (by simp)]
  · rw [if_neg e]
    split
    · rw [plc_out hf]
      have : decide (f.proto = i) = false := decide_eq_false (fun h => e h.symm)
      have h2 : decide (f.proto < 0) = false := decide_eq_false (by omega)
      simp [this, h2]
    · rfl
theorem restP_skip {fs : List F} {k : Nat} {f : F} (hf : fs[k]? = some f) (hp : 0 ≤ f.proto) : restP fs (k + 1) = restP fs k := plc_out hf (decide_eq_false (by omega))
theorem restP_put {fs : List F} {k : Nat} {f : F} (hf : fs[k]? = some f) (hp : ¬ 0 ≤ f.proto) : restP fs (k + 1) = restP fs k ++ [(k : Int)] := plc_in hf (decide_eq_true (by omega))
theorem restP_len (fs : List F) (k : Nat) : (restP fs k).length ≤ k := plc_len _ _ _
theorem rowP_zero (fs : List F) (p : Int) : rowP fs 0 p = [] := by unfold rowP; split <;> rfl
/-- what a range over the table's rows has done: the rows that are still to come are as they were -/
def rowL (fs : List F) (k : Nat) (left : Int → Bool) (p : Int) : List Int := if left p = true then rowP fs k p else rowP fs (k + 1) p
theorem rowL_len (fs : List F) (k : Nat) (left : Int → Bool) (p : Int) : (rowL fs k left p).length ≤ k + 1 := by
  unfold rowL
  split
  · have := rowP_len fs k p; omega
  · exact rowP_len fs (k + 1) p
theorem rowL_start {fs : List F} {k : Nat} {left : Int → Bool} (h : ∀ p, left p = dmB fs fs.length p) : rowL fs k left = rowP fs k := by
  funext p
  unfold rowL
  split
  · rfl
  · rename_i hn
    rw [h p] at hn
    unfold rowP
    rw [if_neg hn, if_neg hn]
theorem rowL_end {fs : List F} {k : Nat} {left : Int → Bool} (h : ∀ p, left p = false) : rowL fs k left = rowP fs (k + 1) := by
  funext p
  unfold rowL
  rw [if_neg (by rw [h p]; decide)]
theorem rowL_put {fs : List F} {k : Nat} {f : F} {left : Int → Bool} {p : Int} (hf : fs[k]? = some f) (hp : ¬ 0 ≤ f.proto) (hl : left p = true) (hd : dmB fs fs.length p = true) :
    (fun i => if i = p then rowL fs k left p ++ [(k : Int)] else rowL fs k left i) = rowL fs k (fun i => left i && !decide (i = p)) := by
  funext i
  unfold rowL
  by_cases e : i = p
  · subst e
    rw [if_pos rfl, if_pos hl, if_neg (by simp)]
    unfold rowP
    rw [if_pos hd, if_pos hd, plc_in hf (by have : f.proto < 0 := by omega
                                            simp [this])]
  · rw [if_neg e]
    have : (left i && !decide (i = p)) = left i := by simp [e]
    simp only [this]
theorem put_some {kf : Int → Option Sv} {p : Int} {v : Sv} (h : (kf p).isSome = true) : (fun i => ((if i = p then some v else kf i)).isSome) = fun i => (kf i).isSome := by
  funext i
  by_cases e : i = p
  · subst e; simp [h]
  · simp [e]
end Go.Proofs.YtpchhfhmopmagaaGreat.Fi

/- ftable.order, ftable.of. -/
namespace Go.Proofs.YtpchhfhmopmagaaGreat.Fi
open Go.RowKit Go.Shelf Go.Sort Go.Maps Go.Proofs.YtpchhfhmopmagaaGreat.Wd Go.Proofs.YtpchhfhmopmagaaGreat.Li Go.Proofs.YtpchhfhmopmagaaGreat.Mp Go.Proofs.YtpchhfhmopmagaaGreat.Tr
attribute [local go_sem] Lx.opX Rel.oneOk
attribute [local irreducible] Lx.wpX

theorem less_c (a b : F) (w : World) : Calls Tryz.prog 256 #[a.agg, b.agg] w fun e w' => e = .returned (.bool (lessF a b)) ∧ w' = (w.alloc (.cells a.cells.toArray 98)).alloc (.cells b.cells.toArray 98) := by
  unfold lessF F.agg F.cells
  by_cases h : a.prio = b.prio
  · have hb : (a.prio != b.prio) = false := by rw [bne_eq_false_iff_eq]; exact h
    rw [if_pos h]
    clear h
    go_enter Tryz.func256, Tryz.ntmps256
    go_wp2
    go_ret
    exact ⟨rfl, rfl⟩
  · have hb : (a.prio != b.prio) = true := by rw [bne_iff_ne]; exact h
    rw [if_neg h]
    clear h
    go_enter Tryz.func256, Tryz.ntmps256
    go_wp2
    go_ret
    exact ⟨rfl, rfl⟩
set_option maxHeartbeats 1000000 in
theorem order_call (a b : F) (w : World) : Calls Tryz.prog 205 #[a.agg, b.agg] w fun e w' => e = .returned (.int .i64 (cmpO a b)) ∧ ∃ q os', w' = grow (w.drewN q) os' := by
  have h1 := Lib.hid (fun u => less_c a b u)
  have h2 := Lib.hid (fun u => less_c b a u)
  unfold cmpO
  unfold F.agg at h1 h2 ⊢
  generalize lessF a b = l1 at *
  generalize lessF b a = l2 at *
  cases l1 with
  | true =>
    go_enter Tryz.func205, Tryz.ntmps205
    go_wp2_with (go_at_call 256; (with_reducible refine (h1.out _).mono ?_); rintro e w' ⟨rfl, rfl⟩)
    go_ret
    exact ⟨rfl, 0, _, by rw [alloc_eq_grow, alloc_eq_grow, alloc_eq_grow, alloc_eq_grow, grow_grow, grow_grow, grow_grow]; rfl⟩
  | false =>
    cases l2 with
    | true =>
      go_enter Tryz.func205, Tryz.ntmps205
      go_wp2_with (first
        | (go_at_call 256; (with_reducible refine (h1.out _).mono ?_); rintro e w' ⟨rfl, rfl⟩)
        | (go_at_call 256; (with_reducible refine (h2.out _).mono ?_); rintro e w' ⟨rfl, rfl⟩))
      go_ret
      exact ⟨rfl, 0, _, by simp only [alloc_eq_grow, grow_grow]; rfl⟩
    | false =>
      go_enter Tryz.func205, Tryz.ntmps205
      go_wp2_with (first
        | (go_at_call 256; (with_reducible refine (h1.out _).mono ?_); rintro e w' ⟨rfl, rfl⟩)
        | (go_at_call 256; (with_reducible refine (h2.out _).mono ?_); rintro e w' ⟨rfl, rfl⟩))
      go_ret
      exact ⟨rfl, 0, _, by simp only [alloc_eq_grow, grow_grow]; rfl⟩
theorem order_is : Cmp 205 cmpO ordK := ⟨cmpO_lt, order_call, enters_of Tryz.func205 (by kernel_rfl) rfl⟩
/-- a table lies at T, all of it below B -/
def TableAt (w : World) (B T : Nat) (l : List F) : Prop := ∃ (h : Nat) (A : Option Addr) (c : Nat) (s : Sv) (kf : Int → Option Sv), T < B ∧ h < B ∧
  w.heap[T]? = some (.cells #[.slice A l.length c, .map (some h), s.val] 215 (0, 0)) ∧ HoldsF B w (.slice A l.length c) (sortK ordK l) ∧
  At Sv.val Sv.enc Sv.nil Tryz.prog 3 w h 64 kf ∧ (∀ p, (kf p).isSome = dmB (sortK ordK l) l.length p) ∧
  (∀ p, ∃ A' c', ((kf p).getD Sv.nil).val = .slice A' (rowP (sortK ordK l) l.length p).length c' ∧ Sl w B 1 A' (rowP (sortK ordK l) l.length p).length (St.I (rowP (sortK ordK l) l.length p))) ∧
  (∃ A' c', s.val = .slice A' (restP (sortK ordK l) l.length).length c' ∧ Sl w B 1 A' (restP (sortK ordK l) l.length).length (St.I (restP (sortK ordK l) l.length)))
theorem TableAt.below {w w' : World} {B T : Nat} {l : List F} (hb : Below B w w') (t : TableAt w B T l) : TableAt w' B T l := by
  obtain ⟨h, A, c, s, kf, hT, hh, h1, h2, h3, h4, h5, A', c', e, hs⟩ := t
  exact ⟨h, A, c, s, kf, hT, hh, (hb.block _ hT).trans h1, Lies.below hb h2, h3.below hb hh, h4, fun p => by obtain ⟨A', c', e, hs⟩ := h5 p; exact ⟨A', c', e, hs.below hb⟩, A', c', e, hs.below hb⟩
theorem TableAt.up {w : World} {B B' T : Nat} {l : List F} (hB : B ≤ B') (t : TableAt w B T l) : TableAt w B' T l := by
  obtain ⟨h, A, c, s, kf, hT, hh, h1, h2, h3, h4, h5, A', c', e, hs⟩ := t
  exact ⟨h, A, c, s, kf, by omega, by omega, h1, Lies.up hB h2, h3, h4, fun p => by obtain ⟨A', c', e, hs⟩ := h5 p; exact ⟨A', c', e, hs.more hB⟩, A', c', e, hs.more hB⟩
def OfOk (l : List F) (w : World) (e : Ending) (w' : World) : Prop := ∃ T, e = .returned (.pointer (some ⟨T, 0, none⟩)) ∧ TableAt w' w'.heap.size T l ∧ w.heap.size ≤ T ∧ Below w.heap.size w w'

end Go.Proofs.YtpchhfhmopmagaaGreat.Fi

/- ftable.of. -/
namespace Go.Proofs.YtpchhfhmopmagaaGreat.Fi
open Go.RowKit Go.Shelf Go.Sort Go.Maps Go.Proofs.YtpchhfhmopmagaaGreat.Wd Go.Proofs.YtpchhfhmopmagaaGreat.Li Go.Proofs.YtpchhfhmopmagaaGreat.Mp Go.Proofs.YtpchhfhmopmagaaGreat.Tr
attribute [local go_sem] Lx.opX Rel.oneOk
attribute [local irreducible] Lx.wpX

theorem Tb.same2 {w w' : World} {T h base : Nat} {A : Option Addr} {m c : Nat} {s : Sv} {kf : Int → Option Sv} {R : Int → List Int} {r : List Int} {rb : Nat} (b : Tb w T h base A m c s kf R r) (hb : ∀ g, g < w.heap.size → g ≠ h → g ≠ rb → w'.heap[g]? = w.heap[g]?) (hT : T ≠ rb) (hr : ∀ p, rowOf kf p ≠ some rb) (hs : s.g ≠ some rb) : Tb w' T h base A m c s kf R r where
  cell := (hb _ (lt_get b.cell) (Ne.symm b.ne) hT).trans b.cell
  row := fun p => own_same (b.row p) fun g hg => hb g ((b.row p).lt g hg).2 (by have := ((b.row p).lt g hg).1; have := b.hh; omega) (fun e => by subst e; rw [own_val] at hg; exact hr p hg)
  rest := own_same b.rest fun g hg => hb g (b.rest.lt g hg).2 (by have := (b.rest.lt g hg).1; have := b.hh; omega) (fun e => by subst e; rw [own_val] at hg; exact hs hg)
  ap := b.ap
  api := b.api
  hT := b.hT
  hh := b.hh
  ne := b.ne
theorem hold_keep {U w' : World} {h : Nat} {sv : Value} {zs : List F} (k : HoldsF h U sv zs) (hq : ∀ q, q < U.heap.size → q ≠ h → q ≠ h + 1 → w'.heap[q]? = U.heap[q]?) (hs : h ≤ U.heap.size) : HoldsF h w' sv zs := by
  rcases k with e | ⟨b, off, c, e, hb, hc⟩
  · exact .inl e
  · refine .inr ⟨b, off, c, e, hb, fun j x hx i v hv => ?_⟩
    rw [← hc j x hx i v hv]
    unfold World.cell?
    rw [hq b (by omega) (by omega) (by omega)]
theorem row_put {kf : Int → Option Sv} {p q : Int} {v : Sv} {rb : Nat} (h : ∀ p, rowOf kf p ≠ some rb) (hv : v.g ≠ some rb) : rowOf (fun i => if i = p then some v else kf i) q ≠ some rb := by
  have h2 := h q
  unfold rowOf at h2 ⊢
  by_cases e : q = p
  · simp only [e, if_true, Option.getD_some]; exact hv
  · simp only [if_neg e]; exact h2

set_option maxRecDepth 20000 in
set_option maxHeartbeats 4000000 in
theorem of_c (A : Option Addr) (n c : Nat) (l : List F) (h64 : l.length ≤ 64) (w : World) (hI : HoldsF w.heap.size w (.slice A n c) l) :
    Calls Tryz.prog 134 #[.slice A n c] w (OfOk l w) := by
  have hmm := @run_makeMap Tryz.prog
  have hB0 : Below w.heap.size w (w.alloc (.cells #[.slice A n c] 23)) := (Below.refl _ w).alloc (Nat.le_refl _) _
  have hso := sortedStable_c order_is w.heap.size (.slice A n c) l (by omega) (w.alloc (.cells #[.slice A n c] 23)) (by simp) (by simp) (Lies.up (by simp) (Lies.below hB0 hI))
  have HSO := Lib.hid hso; have HB0 := Lib.hid hB0
  have hsz0 : (w.alloc (.cells #[.slice A n c] 23)).heap.size = w.heap.size + 1 := by simp
  clear hso hB0 hI
  go_enter Tryz.func134, Tryz.ntmps134
  go_upto_region 2 with (first
    | (go_at_call 104; (with_reducible refine (values_c _ _ _ _).mono ?_); rintro e w' ⟨rfl, rfl⟩)
    | (go_at_call 103; (with_reducible refine (HSO.out).mono ?_); rintro e w2 ⟨v, rfl, hS, hb2⟩; obtain ⟨A3, c3, rfl⟩ := Lies.form hS; have HS := Lib.hid hS; have HB2 := Lib.hid (HB0.out.trans (hb2.mono (by simp))); clear hS hb2))
  have hw2 := HB2.out.size
  have hfl : (sortK ordK l).length = l.length := sortK_len l
  have hU0 : ((w2.alloc (.map #[] 0)).alloc (.cells #[.slice A3 (sortK ordK l).length c3, .map (some w2.heap.size), .slice none 0 0] 215)).heap[w2.heap.size]? = some (.map #[] 0) := (Below.heap_alloc _ _ _ (by simp)).trans (heap_alloc_new _ _)
  have hU1 : ((w2.alloc (.map #[] 0)).alloc (.cells #[.slice A3 (sortK ordK l).length c3, .map (some w2.heap.size), .slice none 0 0] 215)).heap[w2.heap.size + 1]? = some (.cells #[.slice A3 (sortK ordK l).length c3, .map (some w2.heap.size), .slice none 0 0] 215 (0, 0)) := by
    have := heap_alloc_new (w2.alloc (.map #[] 0)) (.cells #[.slice A3 (sortK ordK l).length c3, .map (some w2.heap.size), .slice none 0 0] 215)
    simpa using this
  have hUb : Below w2.heap.size w2 ((w2.alloc (.map #[] 0)).alloc (.cells #[.slice A3 (sortK ordK l).length c3, .map (some w2.heap.size), .slice none 0 0] 215)) := ((Below.refl _ w2).alloc (Nat.le_refl _) _).alloc (by simp) _
  have hUs : ((w2.alloc (.map #[] 0)).alloc (.cells #[.slice A3 (sortK ordK l).length c3, .map (some w2.heap.size), .slice none 0 0] 215)).heap.size = w2.heap.size + 2 := by simp
  generalize World.alloc (World.alloc w2 _) _ = U at *
  have HSU := Lib.hid (Lies.below hUb HS.out)
  have HUB := Lib.hid (HB2.out.trans (hUb.mono hw2))
  obtain ⟨h, hh⟩ : ∃ h, h = w2.heap.size := ⟨_, rfl⟩
  rw [← hh] at hU0 hU1 hUs HSU hw2 ⊢
  obtain ⟨fs, hfs⟩ : ∃ fs, fs = sortK ordK l := ⟨_, rfl⟩
  have HFS := Lib.hid hfs
  rw [← hfs] at hU1 HSU hfl ⊢
  have HU0 := Lib.hid hU0; have HU1 := Lib.hid hU1; have HUS := Lib.hid hUs
  clear hU0 hU1 hUb HS HSO HB2 HB0 hsz0 hh hfs
  have hf64 : fs.length ≤ 64 := by omega
  have HFL := Lib.hid hfl
  clear hfl
  have t0 := cells_at HU1.out 0 _ rfl
  go_wp2_with fail
  go_loopg [20] fs.length (fun kx s20 wr => ∃ k : Nat, s20 = .int .i64 k ∧ k ≤ fs.length ∧ fs.length - k ≤ kx ∧ Hid (At Sv.val Sv.enc Sv.nil Tryz.prog 3 wr h k (fun p => if dmB fs k p then some Sv.nil else none)) ∧ Hid (∀ q, q < U.heap.size → q ≠ h → wr.heap[q]? = U.heap[q]?) ∧ U.heap.size ≤ wr.heap.size ∧ Hid (Below w.heap.size w wr))
  case atStart => exact ⟨0, rfl, by omega, by omega, Lib.hid (At.made_block HU0.out), Lib.hid (fun _ _ _ => rfl), Nat.le_refl _, HUB⟩
  case round =>
    obtain ⟨k, rfl, hk, hkx, HM, HQ, hwr, HW⟩ := hrel
    clear t0
    by_cases hlt : k < fs.length
    · have hltz : (k : Int) < (fs.length : Int) := by omega
      obtain ⟨_, hcs⟩ := Lies.parts HSU.out
      obtain ⟨b, off, rfl, hb, hc⟩ := hcs (by omega)
      obtain ⟨f, hf⟩ : ∃ f, fs[k]? = some f := ⟨_, List.getElem?_eq_getElem hlt⟩
      have hcx : ∀ (i : Nat) (v : Value), f.cells[i]? = some v → wr.cell? ⟨b, off + k * 15 + i, none⟩ = some v := fun i v hv => by
        have := hc k f hf i v hv
        rw [← this]
        unfold World.cell?
        rw [HQ.out b (by omega) (by omega)]
      have c0 : wr.cell? ⟨b, off + k * 15, none⟩ = some (.int .i64 f.id) := hcx 0 _ rfl
      have c1 := hcx 1 _ rfl; have c2 := hcx 2 _ rfl; have c3 := hcx 3 _ rfl; have c4 := hcx 4 _ rfl; have c5 := hcx 5 _ rfl; have c6 := hcx 6 _ rfl; have c7 := hcx 7 _ rfl; have c8 := hcx 8 _ rfl; have c9 := hcx 9 _ rfl; have c10 := hcx 10 _ rfl; have c11 := hcx 11 _ rfl; have c12 := hcx 12 _ rfl; have c13 := hcx 13 _ rfl; have c14 := hcx 14 _ rfl
      have HF := Lib.hid hf
      clear hcs hc hf hcx
      go_upto_region 5 with fail
      have hRn := row_new wr 98 f.cells
      have hMu := HM.out.alloc (.cells #[.int .i64 f.id, .int .i64 f.prio, .int .i64 f.ver, .int .u64 f.sh, .int .u64 f.sl, .int .u64 f.dh, .int .u64 f.dl, .int .i64 f.sn, .int .i64 f.dn, .int .i64 f.proto, .int .i64 f.s0, .int .i64 f.s1, .int .i64 f.d0, .int .i64 f.d1, .int .i64 f.leaf] 98)
      have hWu := HW.out.alloc HW.out.size (.cells #[.int .i64 f.id, .int .i64 f.prio, .int .i64 f.ver, .int .u64 f.sh, .int .u64 f.sl, .int .u64 f.dh, .int .u64 f.dl, .int .i64 f.sn, .int .i64 f.dn, .int .i64 f.proto, .int .i64 f.s0, .int .i64 f.s1, .int .i64 f.d0, .int .i64 f.d1, .int .i64 f.leaf] 98)
      have hus : (wr.alloc (.cells #[.int .i64 f.id, .int .i64 f.prio, .int .i64 f.ver, .int .u64 f.sh, .int .u64 f.sl, .int .u64 f.dh, .int .u64 f.dl, .int .i64 f.sn, .int .i64 f.dn, .int .i64 f.proto, .int .i64 f.s0, .int .i64 f.s1, .int .i64 f.d0, .int .i64 f.d1, .int .i64 f.leaf] 98)).heap.size = wr.heap.size + 1 := by simp
      have hQu : ∀ q, q < U.heap.size → q ≠ h → (wr.alloc (.cells #[.int .i64 f.id, .int .i64 f.prio, .int .i64 f.ver, .int .u64 f.sh, .int .u64 f.sl, .int .u64 f.dh, .int .u64 f.dl, .int .i64 f.sn, .int .i64 f.dn, .int .i64 f.proto, .int .i64 f.s0, .int .i64 f.s1, .int .i64 f.d0, .int .i64 f.d1, .int .i64 f.leaf] 98)).heap[q]? = U.heap[q]? := fun q hq a1 => (Below.heap_alloc _ _ _ (by omega)).trans (HQ.out q hq a1)
      unfold F.cells at hRn
      generalize World.alloc wr _ = u at *
      have HRn := Lib.hid hRn; have HMu := Lib.hid hMu; have HWu := Lib.hid hWu; have HQu := Lib.hid hQu
      clear hRn hMu hWu hQu c0 c1 c2 c3 c4 c5 c6 c7 c8 c9 c10 c11 c12 c13 c14
      have x9 : u.cell? ⟨wr.heap.size, 9, none⟩ = some (.int .i64 f.proto) := HRn.out.cell 9
      have t1 := cells_at ((HQu.out (h + 1) (by omega) (by omega)).trans HU1.out) 1 _ rfl
      have hwfp : (Lit.int .i64 f.proto).wf = true := WalkArith.wf_i64 (by have := f.ok; unfold InI at this; omega)
      by_cases hp : 0 ≤ f.proto
      · go_upto_region 6 with fail
        have HP := Lib.hid hp
        clear hp
        go_still_tail 6, (by kernel_rfl)
        change wpList _ _ _ _ _ (World.drew _)
        refine wpList_put sv_kind (by rfl) _ _ _ 132 (by rfl) 3 38 Tryz.underlying3 Tryz.underlying132 Sv.nil h k (fun p => if dmB fs k p = true then some Sv.nil else none) _ (by rfl) (HMu.out.block rfl) (by omega) f.proto Sv.nil (by rfl) (by rfl) hwfp ?_
        intro w3 hm3 hg3
        rw [dm_put HF.out HP.out] at hm3
        have HM3 := Lib.hid hm3; have HG3 := Lib.hid hg3
        clear hm3 hg3
        have hs3 := HG3.out.size
        simp at hs3
        go_wp2_with fail
        go_roundg (fs.length - (k + 1))
        case measure => omega
        case rel => exact ⟨k + 1, by go_num, by omega, by omega, HM3, Lib.hid (fun q hq hne => (HG3.out.block q (by simp; omega) (fun e => hne (by injection e))).trans (HQu.out q hq hne)), by omega, Lib.hid (HWu.out.drew.grown HG3.out (by simp; omega) (fun q hq => by injection hq; omega))⟩
      · have HDS := Lib.hid (dm_skip HF.out hp)
        go_wp2_with fail
        go_roundg (fs.length - (k + 1))
        case measure => omega
        case rel => exact ⟨k + 1, by go_num, by omega, by omega, Lib.hid (by rw [HDS.out]; exact HMu.out.more (by omega)), HQu, by omega, HWu⟩
    · have hltz : ¬ (k : Int) < (fs.length : Int) := by omega
      obtain rfl : k = fs.length := by omega
      rename World => v1
      have hT0 := (HQ.out (h + 1) (by omega) (by omega)).trans HU1.out
      obtain ⟨kf0, hkf0⟩ : ∃ kf0 : Int → Option Sv, kf0 = fun p => if dmB fs fs.length p = true then some Sv.nil else none := ⟨_, rfl⟩
      have hM0 := HM.out
      rw [← hkf0] at hM0
      have hr0 : ∀ p, (kf0 p).getD Sv.nil = Sv.nil := by intro p; rw [hkf0]; simp only; split <;> rfl
      have hd0 : ∀ p, (kf0 p).isSome = dmB fs fs.length p := by intro p; rw [hkf0]; simp only; cases dmB fs fs.length p <;> rfl
      have hTb : Tb v1 (h + 1) h U.heap.size A3 fs.length c3 Sv.nil kf0 (rowP fs 0) (restP fs 0) := ⟨hT0, fun p => by rw [hr0 p, rowP_zero]; exact World.ownsRow_nil .., World.ownsRow_nil .., fun p q _ => .inl (by unfold rowOf; rw [hr0 p]; rfl), fun p => .inl (by unfold rowOf; rw [hr0 p]; rfl), by omega, by omega, by omega⟩
      have HTB := Lib.hid hTb; have HM0 := Lib.hid (hM0.more (n' := 64) (by omega)); have HD0 := Lib.hid hd0
      have HQ0 : Hid (∀ q, q < U.heap.size → q ≠ h → q ≠ h + 1 → v1.heap[q]? = U.heap[q]?) := Lib.hid (fun q hq a _ => HQ.out q hq a)
      have t0 := cells_at hT0 0 _ rfl
      clear hTb hM0 hd0 hr0 hkf0 hT0 HM HQ
      go_wp2_with fail
      go_loopg [39] fs.length (fun kx s39 wq => ∃ (k : Nat) (s : Sv) (kf : Int → Option Sv), s39 = .int .i64 k ∧ k ≤ fs.length ∧ fs.length - k ≤ kx ∧ Hid (Tb wq (h + 1) h U.heap.size A3 fs.length c3 s kf (rowP fs k) (restP fs k)) ∧ Hid (At Sv.val Sv.enc Sv.nil Tryz.prog 3 wq h 64 kf) ∧ Hid (∀ p, (kf p).isSome = dmB fs fs.length p) ∧ Hid (∀ q, q < U.heap.size → q ≠ h → q ≠ h + 1 → wq.heap[q]? = U.heap[q]?) ∧ U.heap.size ≤ wq.heap.size ∧ Hid (Below w.heap.size w wq))
      case atStart => exact ⟨0, Sv.nil, kf0, rfl, by omega, by omega, HTB, HM0, HD0, HQ0, by omega, HW⟩
      case round =>
        obtain ⟨k, s, kf, rfl, hk, hkx, HB, HM, HD, HQ, hwo, HW⟩ := hrel
        rename World => wo
        clear t0 HTB HM0 HD0 HQ0 hltz
        by_cases hlt : k < fs.length
        · have hltz : (k : Int) < (fs.length : Int) := by omega
          obtain ⟨_, hcs⟩ := Lies.parts HSU.out
          obtain ⟨b, off, rfl, hb, hc⟩ := hcs (by omega)
          obtain ⟨f, hf⟩ : ∃ f, fs[k]? = some f := ⟨_, List.getElem?_eq_getElem hlt⟩
          have hcx : ∀ (i : Nat) (v : Value), f.cells[i]? = some v → wo.cell? ⟨b, off + k * 15 + i, none⟩ = some v := fun i v hv => by
            have := hc k f hf i v hv
            rw [← this]
            unfold World.cell?
            rw [HQ.out b (by omega) (by omega) (by omega)]
          have c0 : wo.cell? ⟨b, off + k * 15, none⟩ = some (.int .i64 f.id) := hcx 0 _ rfl
          have c1 := hcx 1 _ rfl; have c2 := hcx 2 _ rfl; have c3 := hcx 3 _ rfl; have c4 := hcx 4 _ rfl; have c5 := hcx 5 _ rfl; have c6 := hcx 6 _ rfl; have c7 := hcx 7 _ rfl; have c8 := hcx 8 _ rfl; have c9 := hcx 9 _ rfl; have c10 := hcx 10 _ rfl; have c11 := hcx 11 _ rfl; have c12 := hcx 12 _ rfl; have c13 := hcx 13 _ rfl; have c14 := hcx 14 _ rfl
          have HF := Lib.hid hf
          clear hcs hc hf hcx
          go_upto_region 11 with fail
          have hRn := row_new wo 98 f.cells
          have hBu := HB.out.same (w' := wo.alloc (.cells #[.int .i64 f.id, .int .i64 f.prio, .int .i64 f.ver, .int .u64 f.sh, .int .u64 f.sl, .int .u64 f.dh, .int .u64 f.dl, .int .i64 f.sn, .int .i64 f.dn, .int .i64 f.proto, .int .i64 f.s0, .int .i64 f.s1, .int .i64 f.d0, .int .i64 f.d1, .int .i64 f.leaf] 98)) (fun q hq _ => Below.heap_alloc _ _ _ hq)
          have hMu := HM.out.alloc (.cells #[.int .i64 f.id, .int .i64 f.prio, .int .i64 f.ver, .int .u64 f.sh, .int .u64 f.sl, .int .u64 f.dh, .int .u64 f.dl, .int .i64 f.sn, .int .i64 f.dn, .int .i64 f.proto, .int .i64 f.s0, .int .i64 f.s1, .int .i64 f.d0, .int .i64 f.d1, .int .i64 f.leaf] 98)
          have hWu := HW.out.alloc HW.out.size (.cells #[.int .i64 f.id, .int .i64 f.prio, .int .i64 f.ver, .int .u64 f.sh, .int .u64 f.sl, .int .u64 f.dh, .int .u64 f.dl, .int .i64 f.sn, .int .i64 f.dn, .int .i64 f.proto, .int .i64 f.s0, .int .i64 f.s1, .int .i64 f.d0, .int .i64 f.d1, .int .i64 f.leaf] 98)
          have hus : (wo.alloc (.cells #[.int .i64 f.id, .int .i64 f.prio, .int .i64 f.ver, .int .u64 f.sh, .int .u64 f.sl, .int .u64 f.dh, .int .u64 f.dl, .int .i64 f.sn, .int .i64 f.dn, .int .i64 f.proto, .int .i64 f.s0, .int .i64 f.s1, .int .i64 f.d0, .int .i64 f.d1, .int .i64 f.leaf] 98)).heap.size = wo.heap.size + 1 := by simp
          have hQu : ∀ q, q < U.heap.size → q ≠ h → q ≠ h + 1 → (wo.alloc (.cells #[.int .i64 f.id, .int .i64 f.prio, .int .i64 f.ver, .int .u64 f.sh, .int .u64 f.sl, .int .u64 f.dh, .int .u64 f.dl, .int .i64 f.sn, .int .i64 f.dn, .int .i64 f.proto, .int .i64 f.s0, .int .i64 f.s1, .int .i64 f.d0, .int .i64 f.d1, .int .i64 f.leaf] 98)).heap[q]? = U.heap[q]? := fun q hq a1 a2 => (Below.heap_alloc _ _ _ (by omega)).trans (HQ.out q hq a1 a2)
          unfold F.cells at hRn
          generalize World.alloc wo _ = u at *
          have HRn := Lib.hid hRn; have HMu := Lib.hid hMu; have HWu := Lib.hid hWu; have HQu := Lib.hid hQu; have HBu := Lib.hid hBu
          have HSG : Hid (∀ q, s.g = some q → U.heap.size ≤ q ∧ q < wo.heap.size) := Lib.hid (fun q hq => HB.out.rest_lt hq)
          have HRG : Hid (∀ p q, rowOf kf p = some q → U.heap.size ≤ q ∧ q < wo.heap.size) := Lib.hid (fun p q hq => HB.out.row_lt hq)
          have hus1 : wo.heap.size < u.heap.size := by omega
          have huU : U.heap.size ≤ u.heap.size := by omega
          clear hRn hMu hWu hQu hBu HB HM HQ HW hus c0 c1 c2 c3 c4 c5 c6 c7 c8 c9 c10 c11 c12 c13 c14
          have x9 : u.cell? ⟨wo.heap.size, 9, none⟩ = some (.int .i64 f.proto) := HRn.out.cell 9
          have t1 := cells_at HBu.out.cell 1 _ rfl
          have hwfp : (Lit.int .i64 f.proto).wf = true := WalkArith.wf_i64 (by have := f.ok; unfold InI at this; omega)
          have hrl := rowP_len fs k f.proto
          have hrs := restP_len fs k
          by_cases hp : 0 ≤ f.proto
          · go_upto_region 12 with fail
            have HP := Lib.hid hp
            clear hp
            obtain ⟨sv, hsv⟩ : ∃ sv, sv = (kf f.proto).getD Sv.nil := ⟨_, rfl⟩
            have hS7 : ∀ q, (q = h + 1 ∨ q = wo.heap.size ∨ q = h) → q < u.heap.size := fun q hq => by rcases hq with e | e | e <;> omega
            have HS7 := Lib.hid hS7
            have hlk : ∀ w', (∃ z, w' = Lx.kept (fun q => q = h + 1 ∨ q = wo.heap.size ∨ q = h) u.drew z) → (Instr.lookup 132 (.map (some h)) (.int .i64 f.proto) false).run Tryz.prog w' = .ok sv.val w' := fun w' hw' => by
              obtain ⟨z, rfl⟩ := hw'
              have h1 := HMu.out.block (w' := Lx.kept (fun q => q = h + 1 ∨ q = wo.heap.size ∨ q = h) u.drew z) (Lx.heap_kept (S := fun q => q = h + 1 ∨ q = wo.heap.size ∨ q = h) (W := u.drew) (b := h) (.inr (.inr rfl)))
              have h2 := h1.look sv_kind Tryz.underlying3 Tryz.underlying132 (zslice _) hwfp
              rw [hsv]; exact h2
            have HLK := Lib.hid hlk
            have hrow := HBu.out.row f.proto
            rw [← hsv] at hrow
            have hsvb : ∀ q, sv.g = some q → U.heap.size ≤ q ∧ q < wo.heap.size := fun q hq => HRG.out f.proto q (by unfold rowOf; rw [← hsv]; exact hq)
            have HROW := Lib.hid hrow; have HSV := Lib.hid hsv; have HSVB := Lib.hid hsvb
            clear hS7 hlk hrow hsv hsvb
            refine Lx.wp_region_X 16 (fun w' => ∃ z, w' = Lx.kept (fun q => q = h + 1 ∨ q = wo.heap.size ∨ q = h) u.drew z) (fun i => i == 14 || i == 15) (by kernel_rfl) (by kernel_rfl) (Lx.kept_of (Lx.Keeps.refl _ _)) ?_
            simp only [List.take_succ_cons, List.take_zero, List.drop_succ_cons, List.drop_zero]
            repeat (refine Lx.wpX_step (fun K hK => ?_); first | (refine Lx.opX_free (by rfl) (by rfl) (by rfl) ?_; go_big_quiet_op; refine hK _ _ ?_; clear hK K) | (refine Lx.opX_nil (by rfl) (by rfl) (by rfl) (by rfl) ?_; refine hK _ _ ?_; clear hK K; simp only [Act.put, List.setIfInBounds_toArray, List.set_cons_succ, List.set_cons_zero]))
            refine Lx.wpX_step (fun K hK => ?_)
            refine Lx.opX_look (by rfl) (by rfl) (by rfl) (by rfl) (by rfl) HLK.out ?_
            refine hK _ _ ?_
            clear hK K
            simp only [Act.put, List.setIfInBounds_toArray, List.set_cons_succ, List.set_cons_zero]
            repeat (refine Lx.wpX_step (fun K hK => ?_); first | (refine Lx.opX_free (by rfl) (by rfl) (by rfl) ?_; go_big_quiet_op; refine hK _ _ ?_; clear hK K) | (refine Lx.opX_nil (by rfl) (by rfl) (by rfl) (by rfl) ?_; refine hK _ _ ?_; clear hK K; simp only [Act.put, List.setIfInBounds_toArray, List.set_cons_succ, List.set_cons_zero]))
            refine Lx.wpX_step (fun K hK => ?_)
            refine Lx.opX_law (by rfl) (by rfl) ?_
            go_wp2_with fail
            refine Lx.nq_mk (Lx.kept_of (Lx.Keeps.alloc _ HS7.out)) (hK _ _ ?_)
            clear hK K
            refine Lx.wpX_step (fun K hK => ?_)
            refine Lx.opX_law (by rfl) (by rfl) ?_
            refine wpList_push_at (by rfl) _ _ 38 (by rfl) Tryz.underlying38 U.heap.size (k : Int) u.drew sv.val (rowP fs k f.proto) (by rfl) HROW.out (by rfl) (by omega) (by simp; omega) ?_
            intro g2 cap2 w9 hown9 hg9 hl9
            have HO9 := Lib.hid hown9; have HG9 := Lib.hid hg9; have HL9 := Lib.hid hl9
            clear hown9 hg9 hl9
            refine wpList_nil (Lx.nq_mk (Lx.kept_of ((Lx.Keeps.alloc (w := u.drew) _ HS7.out).trans (Lx.Keeps.grown HG9.out (fun q hq => by have := HS7.out q hq; simp; omega) (fun q hq hq2 => ?_)))) (hK _ _ ?_))
            · rw [own_val] at hq
              have := HSVB.out q hq
              rcases hq2 with e | e | e <;> omega
            clear hK K
            simp only [Act.put, List.setIfInBounds_toArray, List.set_cons_succ, List.set_cons_zero]
            refine Lx.wpX_nil ?_
            have hB9 : Tb u.drew (h + 1) h U.heap.size (some ⟨b, off, none⟩) fs.length c3 s kf (rowP fs k) (restP fs k) := HBu.out.same (fun _ _ _ => rfl)
            have h9 : ∀ q, q < u.heap.size → sv.g ≠ some q → w9.heap[q]? = u.heap[q]? := fun q hq hne => (HG9.out.block q (by simp; omega) (fun e => hne (by rw [own_val] at e; exact e.symm))).trans (Below.heap_alloc u.drew _ q hq)
            have hsm : ∀ q, q < U.heap.size → sv.g ≠ some q := fun q hq e => by have := HSVB.out q e; omega
            have hmK := HMu.out.block (w' := w9) (h9 _ (by omega) (hsm _ (by omega)))
            have hW9 : Below w.heap.size w w9 := (HWu.out.drew.alloc (by simp; omega) _).grown HG9.out (by simp; omega) (fun q hq => by rw [own_val] at hq; have := HSVB.out q hq; omega)
            have hQ9 : ∀ q, q < U.heap.size → q ≠ h → q ≠ h + 1 → w9.heap[q]? = U.heap[q]? := fun q hq a1 a2 => (h9 q (by omega) (hsm q hq)).trans (HQu.out q hq a1 a2)
            have hs9 : u.heap.size < w9.heap.size := by have := HG9.out.size; simp at this; omega
            have HB9 := Lib.hid hB9; have HMK := Lib.hid hmK; have HW9 := Lib.hid hW9; have HQ9 := Lib.hid hQ9
            clear hB9 h9 hsm hmK hW9 hQ9 x9 t1
            go_wp2_with (first | (refine wpList_put sv_kind (by rfl) _ _ _ 132 (by rfl) 3 38 Tryz.underlying3 Tryz.underlying132 Sv.nil h 64 kf _ (by rfl) HMK.out (by omega) f.proto ⟨some g2, (rowP fs k f.proto).length + 1, cap2⟩ (by rfl) (by rfl) hwfp ?_; intro w10 hm10 hg10; have HM10 := Lib.hid hm10; have HG10 := Lib.hid hg10; clear hm10 hg10))
            have hsm10 := put_some (v := ⟨some g2, (rowP fs k f.proto).length + 1, cap2⟩) (show (kf f.proto).isSome = true by rw [HD.out]; exact dmB_at HF.out HP.out)
            have HD10 : Hid (∀ p, ((fun i => if i = f.proto then some (⟨some g2, (rowP fs k f.proto).length + 1, cap2⟩ : Sv) else kf i) p).isSome = dmB fs fs.length p) := Lib.hid (fun p => (congrFun hsm10 p).trans (HD.out p))
            have hB10 := HB9.out.push (p := f.proto) (y := (k : Int)) (o := .cells #[.int .i64 (k : Int)] 3) (u2 := w10) HO9.out (by have := HG9.out; rw [own_val, HSV.out] at this; exact this) (by have := HL9.out; rw [own_val, HSV.out] at this; simpa [rowOf] using this) HG10.out
            rw [rowP_put HF.out HP.out, ← restP_skip HF.out HP.out] at hB10
            have HB10 := Lib.hid hB10
            clear hB10 hsm10
            go_roundg (fs.length - (k + 1))
            case measure => omega
            case rel =>
              refine ⟨k + 1, _, _, by go_num, by omega, by omega, HB10, Lib.hid ((HM10.out.tight Tryz.underlying3 (fs.map F.proto) (fun i hi => dmB_mem (by rw [← HD10.out i]; exact hi))).more (by rw [List.length_map]; omega)), HD10, Lib.hid (fun q hq a1 a2 => (HG10.out.block q (by omega) (fun e => a1 (by injection e))).trans (HQ9.out q hq a1 a2)), by have := HG10.out.size; omega, Lib.hid (HW9.out.grown HG10.out (by omega) (fun q hq => by injection hq; omega))⟩
          · have HP := Lib.hid hp
            have c2 := cells_at HBu.out.cell 2 _ rfl
            have z2 := frozen_at' HBu.out.cell 2
            have hul : h + 1 < u.heap.size := by omega
            have hne1 : ¬ wo.heap.size = h + 1 := by omega
            go_upto_region 13 with fail
            go_upto_region 14 with (first | (refine wpList_push_at (by rfl) _ _ 38 (by rfl) Tryz.underlying38 U.heap.size (k : Int) u s.val (restP fs k) (by rfl) HBu.out.rest (by rfl) (by omega) (by omega) ?_; intro g cap w6 hown6 hg6 hl6; have HO6 := Lib.hid hown6; have HG6 := Lib.hid hg6; have HL6 := Lib.hid hl6; have hT6 := (hg6.block (h + 1) (by simp; omega) (fun e => by rw [own_val] at e; have := HSG.out (h + 1) e.symm; omega)).trans ((Below.heap_alloc u (.cells #[.int .i64 (k : Int)] 3) (h + 1) hul).trans HBu.out.cell); clear hown6 hg6 hl6; have y2 := cells_at hT6 2 _ rfl; have y3 := frozen_at' hT6 2; clear hT6))
            have hB2 := HBu.out.more (u2 := w6.setCell ⟨h + 1, 2, none⟩ (.slice (some ⟨g, 0, none⟩) ((restP fs k).length + 1) cap)) HO6.out (by have := HG6.out; rwa [own_val] at this) (by have := HL6.out; rw [own_val] at this; exact this) rfl
            rw [← restP_put HF.out HP.out] at hB2
            have h6 : ∀ q, q < u.heap.size → s.g ≠ some q → w6.heap[q]? = u.heap[q]? := fun q hq hne => (HG6.out.block q (by simp; omega) (fun e => hne (by rw [own_val] at e; exact e.symm))).trans (Below.heap_alloc u _ q hq)
            have hsm : ∀ q, q < U.heap.size → s.g ≠ some q := fun q hq e => by have := HSG.out q e; omega
            have hW2 : Below w.heap.size w (w6.setCell ⟨h + 1, 2, none⟩ (.slice (some ⟨g, 0, none⟩) ((restP fs k).length + 1) cap)) := ((HWu.out.alloc (by omega) _).grown HG6.out (by simp; omega) (fun q hq => by rw [own_val] at hq; have := HSG.out q hq; omega)).setCell (by simp; omega) _
            have hM2 := HMu.out.block (w' := w6.setCell ⟨h + 1, 2, none⟩ (.slice (some ⟨g, 0, none⟩) ((restP fs k).length + 1) cap)) ((Below.heap_setCell _ _ _ _ (by simp)).trans (h6 h (by omega) (hsm h (by omega))))
            have hQ2 : ∀ q, q < U.heap.size → q ≠ h → q ≠ h + 1 → (w6.setCell ⟨h + 1, 2, none⟩ (.slice (some ⟨g, 0, none⟩) ((restP fs k).length + 1) cap)).heap[q]? = U.heap[q]? := fun q hq a1 a2 => (Below.heap_setCell _ _ _ _ a2).trans ((h6 q (by omega) (hsm q hq)).trans (HQu.out q hq a1 a2))
            have hs2 : (w6.setCell ⟨h + 1, 2, none⟩ (.slice (some ⟨g, 0, none⟩) ((restP fs k).length + 1) cap)).heap.size = w6.heap.size := by simp [World.setCell]
            have hs6 : u.heap.size < w6.heap.size := by have := HG6.out.size; simp at this; omega
            generalize World.setCell w6 _ _ = u2 at *
            have HB2 := Lib.hid hB2; have HW2 := Lib.hid hW2; have HQ2 := Lib.hid hQ2; have HM2 := Lib.hid hM2
            obtain ⟨s2, hs2d⟩ : ∃ s2 : Sv, s2 = ⟨some g, (restP fs k).length + 1, cap⟩ := ⟨_, rfl⟩
            rw [← hs2d] at HB2
            have c1 := cells_at hB2.cell 1 _ rfl
            have hu2l : u.heap.size < u2.heap.size := by omega
            clear hs2 hs6 hB2 h6 hsm hW2 hM2 hQ2 HO6 HG6 HL6 y2 y3 c2 z2 hs2d t1 x9 hp hne1
            go_wp2_with (first | (at_range; refine wpList_range_at rfl _ 132 rfl 3 38 Tryz.underlying3 Tryz.underlying132 Sv.nil h 64 kf _ rfl HM2.out ?_; intro w0 cnt0 hrg0 hcn0 hg0 hs0))
            (try go_frame)
            obtain ⟨rb, hrb⟩ : ∃ rb, rb = u2.heap.size := ⟨_, rfl⟩
            rw [← hrb] at hrg0 ⊢
            have HR0 := Lib.hid hrg0
            have hk0 : ∀ q, q < u2.heap.size → w0.heap[q]? = u2.heap[q]? := fun q hq => hg0.block q hq (fun e => by cases e)
            have HB0 : Hid (Tb w0 (h + 1) h U.heap.size (some ⟨b, off, none⟩) fs.length c3 s2 kf (rowL fs k (fun id => (kf id).isSome)) (restP fs (k + 1))) := Lib.hid (by rw [rowL_start HD.out]; exact HB2.out.same (fun q hq _ => hk0 q hq))
            have HN0 : Hid (∀ p, rowOf kf p ≠ some rb) := Lib.hid (fun p e => by have := HB2.out.row_lt e; omega)
            have HL0 : Hid (∀ p, (kf p).isSome = true → (kf p).isSome = true) := Lib.hid (fun _ h => h)
            have HQ0 : Hid (∀ q, q < U.heap.size → q ≠ h → q ≠ h + 1 → w0.heap[q]? = U.heap[q]?) := Lib.hid (fun q hq a1 a2 => (hk0 q (by omega)).trans (HQ2.out q hq a1 a2))
            have HW0 : Hid (Below w.heap.size w w0) := Lib.hid (HW2.out.grown hg0 HW2.out.size (fun q hq => by cases hq))
            have hw0 : rb < w0.heap.size := by omega
            have hrbU : U.heap.size ≤ rb := by omega
            have HSR : Hid (s2.g ≠ some rb) := Lib.hid (fun e => by have := HB2.out.rest_lt e; omega)
            have hrbu : u2.heap.size ≤ rb := by omega
            clear hrg0 hg0 hk0 c1 hs0 hrb
            go_loopg [8] 64 (fun kx _ wq => ∃ (left : Int → Bool) (cnt : Nat) (kf' : Int → Option Sv), cnt ≤ kx ∧ Hid (Rg Sv.val Sv.enc Sv.nil Tryz.prog 3 wq h rb 64 kf' left cnt) ∧ Hid (Tb wq (h + 1) h U.heap.size (some ⟨b, off, none⟩) fs.length c3 s2 kf' (rowL fs k left) (restP fs (k + 1))) ∧ Hid (∀ p, rowOf kf' p ≠ some rb) ∧ Hid (∀ p, (kf' p).isSome = dmB fs fs.length p) ∧ Hid (∀ p, left p = true → (kf' p).isSome = true) ∧ Hid (∀ q, q < U.heap.size → q ≠ h → q ≠ h + 1 → wq.heap[q]? = U.heap[q]?) ∧ rb < wq.heap.size ∧ Hid (Below w.heap.size w wq))
            case atStart => exact ⟨_, cnt0, kf, hcn0, HR0, HB0, HN0, HD, HL0, HQ0, hw0, HW0⟩
            case round =>
              obtain ⟨left, cnt, kf', hcx, HR, HB, HN, HD', HL, HQ, hwr, HW⟩ := hrel
              clear HR0 HB0 HN0 HL0 HQ0 HW0
              go_wp2_with (first | (at_next; go_loud (refine wpList_next_at sv_kind rfl _ rfl 3 Tryz.underlying3 Sv.nil h rb 64 kf' left cnt _ (by rfl) HR.out ?_ ?_)))
              · intro hdone
                have HE := Lib.hid (rowL_end (fs := fs) (k := k) hdone)
                clear hdone
                go_wp2_with fail
                go_roundg (fs.length - (k + 1))
                case measure => omega
                case rel => exact ⟨k + 1, s2, kf', by go_num, by omega, by omega, Lib.hid (by rw [← HE.out]; exact HB.out), Lib.hid HR.out.at, HD', HQ, by omega, HW⟩
              · intro id c w1 cnt1 hwf hlid hfid hrg1 hlt1 hg1 hs1 hen
                have HRG1 := Lib.hid hrg1; have HLI := Lib.hid hlid; have HFI := Lib.hid hfid
                have hk1 : ∀ q, q < wr.heap.size → q ≠ rb → w1.heap[q]? = wr.heap[q]? := fun q hq hne => hg1.block q hq (fun e => hne (by injection e))
                have hB1 : Tb w1 (h + 1) h U.heap.size (some ⟨b, off, none⟩) fs.length c3 s2 kf' (rowL fs k left) (restP fs (k + 1)) := HB.out.same2 (fun q hq _ hne => hk1 q hq hne) (by omega) HN.out HSR.out
                have hQ1 : ∀ q, q < U.heap.size → q ≠ h → q ≠ h + 1 → w1.heap[q]? = U.heap[q]? := fun q hq a1 a2 => (hk1 q (by omega) (by omega)).trans (HQ.out q hq a1 a2)
                have hW1 : Below w.heap.size w w1 := HW.out.grown hg1 HW.out.size (fun q hq => by injection hq with e; have := HW2.out.size; omega)
                have hrlL := rowL_len fs k left id
                have hdid : dmB fs fs.length id = true := by rw [← HD'.out id, hfid]; rfl
                have hsv0 : ∃ sv, sv = (kf' id).getD Sv.nil := ⟨_, rfl⟩
                have hws1 : rb < w1.heap.size := by omega
                have c1 := cells_at hB1.cell 1 _ rfl
                have HB1 := Lib.hid hB1; have HQ1 := Lib.hid hQ1; have HW1 := Lib.hid hW1; have HDI := Lib.hid hdid
                clear hB1 hQ1 hW1 hk1 hrg1 hlid hfid hg1 hdid hs1 HR HB HQ HW
                go_upto_region 17 with fail
                obtain ⟨sv, hsv⟩ := hsv0
                have hS7 : ∀ q, (q = h + 1 ∨ q = h) → q < w1.heap.size := fun q hq => by rcases hq with e | e <;> omega
                have HS7 := Lib.hid hS7
                have hlk : ∀ w', (∃ z, w' = Lx.kept (fun q => q = h + 1 ∨ q = h) w1.drew z) → (Instr.lookup 132 (.map (some h)) (.int .i64 id) false).run Tryz.prog w' = .ok sv.val w' := fun w' hw' => by
                  obtain ⟨z, rfl⟩ := hw'
                  have h1 := HRG1.out.at.block (w' := Lx.kept (fun q => q = h + 1 ∨ q = h) w1.drew z) (Lx.heap_kept (S := fun q => q = h + 1 ∨ q = h) (W := w1.drew) (b := h) (.inr rfl))
                  have h2 := h1.look sv_kind Tryz.underlying3 Tryz.underlying132 (zslice _) hwf
                  rw [hsv]; exact h2
                have HLK := Lib.hid hlk
                have hrow := HB1.out.row id
                rw [← hsv] at hrow
                have hsvb : ∀ q, sv.g = some q → U.heap.size ≤ q ∧ q < w1.heap.size ∧ q ≠ rb := fun q hq => by
                  have hq2 : rowOf kf' id = some q := by unfold rowOf; rw [← hsv]; exact hq
                  have := HB1.out.row_lt hq2
                  exact ⟨this.1, this.2, fun e => HN.out id (by rw [hq2, e])⟩
                have HROW := Lib.hid hrow; have HSV := Lib.hid hsv; have HSVB := Lib.hid hsvb
                clear hS7 hlk hrow hsv hsvb
                refine Lx.wp_region_X 14 (fun w' => ∃ z, w' = Lx.kept (fun q => q = h + 1 ∨ q = h) w1.drew z) (fun i => i == 12 || i == 13) (by kernel_rfl) (by kernel_rfl) (Lx.kept_of (Lx.Keeps.refl _ _)) ?_
                simp only [List.take_succ_cons, List.take_zero, List.drop_succ_cons, List.drop_zero]
                repeat (refine Lx.wpX_step (fun K hK => ?_); first | (refine Lx.opX_free (by rfl) (by rfl) (by rfl) ?_; go_big_quiet_op; refine hK _ _ ?_; clear hK K) | (refine Lx.opX_nil (by rfl) (by rfl) (by rfl) (by rfl) ?_; refine hK _ _ ?_; clear hK K; simp only [Act.put, List.setIfInBounds_toArray, List.set_cons_succ, List.set_cons_zero]))
                refine Lx.wpX_step (fun K hK => ?_)
                refine Lx.opX_look (by rfl) (by rfl) (by rfl) (by rfl) (by rfl) HLK.out ?_
                refine hK _ _ ?_
                clear hK K
                simp only [Act.put, List.setIfInBounds_toArray, List.set_cons_succ, List.set_cons_zero]
                repeat (refine Lx.wpX_step (fun K hK => ?_); first | (refine Lx.opX_free (by rfl) (by rfl) (by rfl) ?_; go_big_quiet_op; refine hK _ _ ?_; clear hK K) | (refine Lx.opX_nil (by rfl) (by rfl) (by rfl) (by rfl) ?_; refine hK _ _ ?_; clear hK K; simp only [Act.put, List.setIfInBounds_toArray, List.set_cons_succ, List.set_cons_zero]))
                refine Lx.wpX_step (fun K hK => ?_)
                refine Lx.opX_law (by rfl) (by rfl) ?_
                go_wp2_with fail
                refine Lx.nq_mk (Lx.kept_of (Lx.Keeps.alloc _ HS7.out)) (hK _ _ ?_)
                clear hK K
                refine Lx.wpX_step (fun K hK => ?_)
                refine Lx.opX_law (by rfl) (by rfl) ?_
                refine wpList_push_at (by rfl) _ _ 38 (by rfl) Tryz.underlying38 U.heap.size (k : Int) w1.drew sv.val (rowL fs k left id) (by rfl) HROW.out (by rfl) (by omega) (by simp; omega) ?_
                intro g2 cap2 w9 hown9 hg9 hl9
                have HO9 := Lib.hid hown9; have HG9 := Lib.hid hg9; have HL9 := Lib.hid hl9
                clear hown9 hg9 hl9
                refine wpList_nil (Lx.nq_mk (Lx.kept_of ((Lx.Keeps.alloc (w := w1.drew) _ HS7.out).trans (Lx.Keeps.grown HG9.out (fun q hq => by have := HS7.out q hq; simp; omega) (fun q hq hq2 => ?_)))) (hK _ _ ?_))
                · rw [own_val] at hq
                  have := HSVB.out q hq
                  rcases hq2 with e | e <;> omega
                clear hK K
                simp only [Act.put, List.setIfInBounds_toArray, List.set_cons_succ, List.set_cons_zero]
                refine Lx.wpX_nil ?_
                have hB9 : Tb w1.drew (h + 1) h U.heap.size (some ⟨b, off, none⟩) fs.length c3 s2 kf' (rowL fs k left) (restP fs (k + 1)) := HB1.out.same (fun _ _ _ => rfl)
                have h9 : ∀ q, q < w1.heap.size → sv.g ≠ some q → w9.heap[q]? = w1.heap[q]? := fun q hq hne => (HG9.out.block q (by simp; omega) (fun e => hne (by rw [own_val] at e; exact e.symm))).trans (Below.heap_alloc w1.drew _ q hq)
                have hsm : ∀ q, q < U.heap.size → sv.g ≠ some q := fun q hq e => by have := HSVB.out q e; omega
                have hR9 := HRG1.out.block (w' := w9) (h9 _ (by omega) (hsm _ (by omega))) (h9 _ hws1 (fun e => (HSVB.out rb e).2.2 rfl))
                have hW9 : Below w.heap.size w w9 := (HW1.out.drew.alloc (by have := HW1.out.size; simp; omega) _).grown HG9.out (by have := HW1.out.size; simp; omega) (fun q hq => by rw [own_val] at hq; have := HSVB.out q hq; have := HW2.out.size; omega)
                have hQ9 : ∀ q, q < U.heap.size → q ≠ h → q ≠ h + 1 → w9.heap[q]? = U.heap[q]? := fun q hq a1 a2 => (h9 q (by omega) (hsm q hq)).trans (HQ1.out q hq a1 a2)
                have hs9 : w1.heap.size < w9.heap.size := by have := HG9.out.size; simp at this; omega
                have hth : (kf' id).isSome = true := by rw [HFI.out]; rfl
                have hg2 : (some g2 : Option Nat) ≠ some rb := by
                  have h0 := HL9.out
                  rw [own_val] at h0
                  rcases h0 with h0 | h0
                  · intro e; exact (HSVB.out rb (h0.trans e)).2.2 rfl
                  · intro e; injection e with e; simp at h0; omega
                have HB9 := Lib.hid hB9; have HR9 := Lib.hid hR9; have HW9 := Lib.hid hW9; have HQ9 := Lib.hid hQ9; have HG2 := Lib.hid hg2
                clear hB9 h9 hsm hR9 hW9 hQ9 c1 hg2
                go_wp2_with (first | (refine wpList_put_rg sv_kind (by rfl) _ _ _ 132 (by rfl) 3 38 Tryz.underlying3 Tryz.underlying132 Sv.nil h rb 64 kf' (fun i => left i && !decide (i = id)) cnt1 _ (by rfl) HR9.out (by omega) id ⟨some g2, (rowL fs k left id).length + 1, cap2⟩ (by rfl) (by rfl) hwf hth ?_; intro w10 hr10 hg10; have HR10 := Lib.hid hr10; have HG10 := Lib.hid hg10; clear hr10 hg10))
                have hsm10 := put_some (v := ⟨some g2, (rowL fs k left id).length + 1, cap2⟩) hth
                have hB10 := HB9.out.push (p := id) (y := (k : Int)) (o := .cells #[.int .i64 (k : Int)] 3) (u2 := w10) HO9.out (by have := HG9.out; rw [own_val, HSV.out] at this; exact this) (by have := HL9.out; rw [own_val, HSV.out] at this; simpa [rowOf] using this) HG10.out
                rw [rowL_put HF.out (by have := HP.out; omega) HLI.out HDI.out] at hB10
                have HB10 := Lib.hid hB10
                clear hB10
                go_roundg cnt1
                case measure => omega
                case rel =>
                  refine ⟨_, cnt1, _, Nat.le_refl _, HR10, HB10, Lib.hid (fun p => row_put HN.out HG2.out), Lib.hid (fun p => (congrFun hsm10 p).trans (HD'.out p)), Lib.hid (fun p hp2 => ?_), Lib.hid (fun q hq a1 a2 => (HG10.out.block q (by omega) (fun e => a1 (by injection e))).trans (HQ9.out q hq a1 a2)), by have := HG10.out.size; omega, Lib.hid (HW9.out.grown HG10.out (by have := HW9.out.size; omega) (fun q hq => by injection hq; omega))⟩
                  rw [congrFun hsm10 p]
                  exact HL.out p (by simp only [Bool.and_eq_true] at hp2; exact hp2.1)
        · have hltz : ¬ (k : Int) < (fs.length : Int) := by omega
          obtain rfl : k = fs.length := by omega
          go_wp2_with fail
          go_ret
          have hfs := HFS.out; have hfl := HFL.out
          subst hfs
          have hB := HB.out
          refine ⟨h + 1, rfl, ⟨h, A3, c3, s, kf, by omega, by omega, by rw [← hfl]; exact hB.cell, by rw [← hfl]; exact Lies.up (by omega) (hold_keep HSU.out HQ.out (by omega)), HM.out, fun p => by rw [← hfl]; exact HD.out p, fun p => ?_, ?_⟩, by omega, HW.out⟩
          · have h1 := hB.row p
            generalize (kf p).getD Sv.nil = sv at h1 ⊢
            unfold Sv.val at h1 ⊢
            have hn := row_len h1
            rw [hn, hfl] at h1 ⊢
            exact ⟨_, _, rfl, Sl.of_own h1⟩
          · have h1 := hB.rest
            unfold Sv.val at h1 ⊢
            have hn := row_len h1
            rw [hn, hfl] at h1 ⊢
            exact ⟨_, _, rfl, Sl.of_own h1⟩
end Go.Proofs.YtpchhfhmopmagaaGreat.Fi

/- ftable.New. -/
namespace Go.Proofs.YtpchhfhmopmagaaGreat.Fi
open Go.RowKit Go.Shelf Go.Sort Go.Maps Go.Proofs.YtpchhfhmopmagaaGreat.Wd Go.Proofs.YtpchhfhmopmagaaGreat.Li Go.Proofs.YtpchhfhmopmagaaGreat.Mp Go.Proofs.YtpchhfhmopmagaaGreat.Tr

def dupF (l : List F) (k : Nat) (i : Int) : Bool := (l.take k).any (fun y => decide (y.id = i))
def seenF (l : List F) (k : Nat) (i : Int) : Option Int := if dupF l k i = true then some 1 else none
theorem dupF_succ {l : List F} {k : Nat} {f : F} (hf : l[k]? = some f) (i : Int) : dupF l (k + 1) i = (dupF l k i || decide (f.id = i)) := by
  unfold dupF
  rw [List.take_add_one, hf, List.any_append]
  simp
theorem seen_put {l : List F} {k : Nat} {f : F} (hf : l[k]? = some f) : (fun i => if i = f.id then some 1 else seenF l k i) = seenF l (k + 1) := by
  funext i
  unfold seenF
  rw [dupF_succ hf]
  by_cases e : i = f.id
  · subst e; simp
  · have : decide (f.id = i) = false := decide_eq_false (fun h => e h.symm)
    simp [e, this]
theorem checkF_far {l : List F} (h : 64 < l.length) : checkF l = 3 := if_pos h
theorem checkF_in {l : List F} (h : ¬ 64 < l.length) : checkF l = scanF l l.length := if_neg h
def FNewOk (l : List F) (w : World) (e : Ending) (w' : World) : Prop :=
  (checkF l ≠ 0 ∧ e = .returned (.tuple #[.pointer none, .int .i64 (checkF l)]) ∧ Below w.heap.size w w') ∨
  (checkF l = 0 ∧ ∃ T, e = .returned (.tuple #[.pointer (some ⟨T, 0, none⟩), .int .i64 0]) ∧ TableAt w' w'.heap.size T l ∧ w.heap.size ≤ T ∧ Below w.heap.size w w')
set_option maxRecDepth 20000 in
set_option maxHeartbeats 4000000 in
theorem newf_c (A : Option Addr) (n c : Nat) (l : List F) (hlen : l.length ≤ 1048576) (w : World) (hI : HoldsF w.heap.size w (.slice A n c) l) :
    Calls Tryz.prog 59 #[.slice A n c] w (FNewOk l w) := by
  obtain ⟨rfl, hcs⟩ := Lies.parts hI
  by_cases h64 : 64 < l.length
  · have e := Lib.hid (checkF_far h64)
    have h64z : (64 : Int) < (l.length : Int) := by omega
    clear hcs h64 hI
    go_enter Tryz.func59, Tryz.ntmps59
    go_wp2
    go_ret2
    exact .inl ⟨by rw [e.out]; decide, by rw [e.out]; rfl, Below.refl _ _⟩
  have e := Lib.hid (checkF_in h64)
  have h64z : ¬ (64 : Int) < (l.length : Int) := by omega
  have hmm := @run_makeMap Tryz.prog
  have HOF := Lib.hid (fun (u : World) (hu : Below w.heap.size w u) => of_c A l.length c l (by omega) u (Lies.up hu.size (Lies.below hu hI)))
  have HI := Lib.hid hI
  have hU0 := heap_alloc_new w (.map #[] 0)
  have hUb : Below w.heap.size w (w.alloc (.map #[] 0)) := (Below.refl _ w).alloc (Nat.le_refl _) _
  have hUs : (w.alloc (.map #[] 0)).heap.size = w.heap.size + 1 := by simp
  have HU0 := Lib.hid hU0; have HUb := Lib.hid hUb; have HUs := Lib.hid hUs
  clear hI hcs hU0 hUb hUs
  go_enter Tryz.func59, Tryz.ntmps59
  go_wp2_with fail
  generalize World.alloc w _ = U at *
  have hUs := HUs.out
  go_loopg [14] l.length (fun kx s14 wr => ∃ k : Nat, s14 = .int .i64 k ∧ k ≤ l.length ∧ l.length - k ≤ kx ∧ Hid (scanF l k = 0) ∧ Hid (At iv ie 0 Tryz.prog 3 wr w.heap.size k (seenF l k)) ∧ Hid (Below w.heap.size w wr) ∧ w.heap.size < wr.heap.size)
  case atStart => exact ⟨0, rfl, by omega, by omega, Lib.hid rfl, Lib.hid (At.made_block HU0.out), HUb, by omega⟩
  case round =>
    obtain ⟨k, rfl, hk, hkx, HSC, HM, HW, hws⟩ := hrel
    clear h64z hUs
    by_cases hlt : k < l.length
    · have hltz : (k : Int) < (l.length : Int) := by omega
      obtain ⟨_, hcs⟩ := Lies.parts HI.out
      obtain ⟨b, off, rfl, hb, hc⟩ := hcs (by omega)
      obtain ⟨f, hf⟩ : ∃ f, l[k]? = some f := ⟨_, List.getElem?_eq_getElem hlt⟩
      have hcx : ∀ (i : Nat) (v : Value), f.cells[i]? = some v → wr.cell? ⟨b, off + k * 15 + i, none⟩ = some v := fun i v hv => (HW.out.cell (p := ⟨b, off + k * 15 + i, none⟩) hb).trans (hc k f hf i v hv)
      have c0 : wr.cell? ⟨b, off + k * 15, none⟩ = some (.int .i64 f.id) := hcx 0 _ rfl
      have c1 := hcx 1 _ rfl; have c2 := hcx 2 _ rfl; have c3 := hcx 3 _ rfl; have c4 := hcx 4 _ rfl; have c5 := hcx 5 _ rfl; have c6 := hcx 6 _ rfl; have c7 := hcx 7 _ rfl; have c8 := hcx 8 _ rfl; have c9 := hcx 9 _ rfl; have c10 := hcx 10 _ rfl; have c11 := hcx 11 _ rfl; have c12 := hcx 12 _ rfl; have c13 := hcx 13 _ rfl; have c14 := hcx 14 _ rfl
      have HF := Lib.hid hf
      have HR := Lib.hid (fun u => rightF_c f u)
      unfold F.agg at HR
      clear hcs hc hf hcx
      go_upto_region 7 with fail
      have hRn := row_new wr 98 f.cells
      have hMu := HM.out.alloc (.cells #[.int .i64 f.id, .int .i64 f.prio, .int .i64 f.ver, .int .u64 f.sh, .int .u64 f.sl, .int .u64 f.dh, .int .u64 f.dl, .int .i64 f.sn, .int .i64 f.dn, .int .i64 f.proto, .int .i64 f.s0, .int .i64 f.s1, .int .i64 f.d0, .int .i64 f.d1, .int .i64 f.leaf] 98)
      have hWu := HW.out.alloc HW.out.size (.cells #[.int .i64 f.id, .int .i64 f.prio, .int .i64 f.ver, .int .u64 f.sh, .int .u64 f.sl, .int .u64 f.dh, .int .u64 f.dl, .int .i64 f.sn, .int .i64 f.dn, .int .i64 f.proto, .int .i64 f.s0, .int .i64 f.s1, .int .i64 f.d0, .int .i64 f.d1, .int .i64 f.leaf] 98)
      have hus : (wr.alloc (.cells #[.int .i64 f.id, .int .i64 f.prio, .int .i64 f.ver, .int .u64 f.sh, .int .u64 f.sl, .int .u64 f.dh, .int .u64 f.dl, .int .i64 f.sn, .int .i64 f.dn, .int .i64 f.proto, .int .i64 f.s0, .int .i64 f.s1, .int .i64 f.d0, .int .i64 f.d1, .int .i64 f.leaf] 98)).heap.size = wr.heap.size + 1 := by simp
      unfold F.cells at hRn
      generalize World.alloc wr _ = u at *
      have HRn := Lib.hid hRn; have HMu := Lib.hid hMu; have HWu := Lib.hid hWu
      have hus1 : wr.heap.size < u.heap.size := by omega
      have d0 := hRn.cell 0; have d1 := hRn.cell 1; have d2 := hRn.cell 2; have d3 := hRn.cell 3; have d4 := hRn.cell 4; have d5 := hRn.cell 5; have d6 := hRn.cell 6; have d7 := hRn.cell 7; have d8 := hRn.cell 8; have d9 := hRn.cell 9; have d10 := hRn.cell 10; have d11 := hRn.cell 11; have d12 := hRn.cell 12; have d13 := hRn.cell 13; have d14 := hRn.cell 14
      simp only [List.getElem?_cons_zero, List.getElem?_cons_succ] at d0 d1 d2 d3 d4 d5 d6 d7 d8 d9 d10 d11 d12 d13 d14
      clear hRn hMu hWu hus c0 c1 c2 c3 c4 c5 c6 c7 c8 c9 c10 c11 c12 c13 c14
      by_cases hr : rightF f = 0
      · rw [hr] at HR
        have HRZ := Lib.hid hr
        clear hr
        go_upto_region 10 with (go_at_call 133; (with_reducible refine (HR.out _).mono ?_); rintro e' w1 ⟨rfl, hb1⟩; have HB1 := Lib.hid hb1; clear hb1)
        have hM1 := HMu.out.below HB1.out (by omega)
        have hW1 := HWu.out.trans (HB1.out.mono HWu.out.size)
        have hx0 := (HB1.out.cell (p := ⟨wr.heap.size, 0, none⟩) hus1).trans d0
        have hs1 := HB1.out.size
        have hwf : (Lit.int .i64 f.id).wf = true := WalkArith.wf_i64 (by have := f.ok; unfold InI at this; omega)
        have hee := Lib.hid (errF_is HF.out HRZ.out)
        have HM1 := Lib.hid hM1; have HW1 := Lib.hid hW1
        clear hM1 hW1 d0 d1 d2 d3 d4 d5 d6 d7 d8 d9 d10 d11 d12 d13 d14 HR
        cases hd : dupF l k f.id with
        | true =>
          have hl1 : (Instr.lookup 133 (.map (some w.heap.size)) (.int .i64 f.id) false).run Tryz.prog w1 = .ok (.int .i64 1) w1 := by
            have := HM1.out.look int_kind Tryz.underlying3 Tryz.underlying133 (zint w1) hwf
            have e1 : (seenF l k f.id).getD 0 = 1 := by unfold seenF; rw [hd]; rfl
            rw [e1] at this
            exact this
          have HE : Hid (errF l k = 9) := Lib.hid (by rw [hee.out]; exact if_pos hd)
          clear hd
          go_upto_region 11 with (refine wpList_put int_kind (by rfl) _ _ _ 133 (by rfl) 3 3 Tryz.underlying3 Tryz.underlying133 0 w.heap.size k (seenF l k) _ (by rfl) HM1.out (by omega) f.id 2 (by rfl) (by rfl) hwf ?_; intro w3 hm3 hg3; have HM3 := Lib.hid hm3; have HG3 := Lib.hid hg3; clear hm3 hg3)
          have hl3 : (Instr.lookup 133 (.map (some w.heap.size)) (.int .i64 f.id) false).run Tryz.prog w3 = .ok (.int .i64 2) w3 := by
            have := HM3.out.look int_kind Tryz.underlying3 Tryz.underlying133 (zint w3) hwf
            simpa [iv] using this
          have hx3 := (World.cell?_of_block (w := w1) (HG3.out.block wr.heap.size (by omega) (fun e => by injection e; omega))).trans hx0
          clear hl1 hx0
          go_wp2_with fail
          go_ret2
          exact .inl ⟨by rw [e.out, scanF_hit HSC.out (by rw [HE.out]; decide) l.length hlt, HE.out]; decide, by rw [e.out, scanF_hit HSC.out (by rw [HE.out]; decide) l.length hlt, HE.out]; rfl, HW1.out.grown HG3.out HW1.out.size (fun q hq => by injection hq; omega)⟩
        | false =>
          have hl1 : (Instr.lookup 133 (.map (some w.heap.size)) (.int .i64 f.id) false).run Tryz.prog w1 = .ok (.int .i64 0) w1 := by
            have := HM1.out.look int_kind Tryz.underlying3 Tryz.underlying133 (zint w1) hwf
            have e1 : (seenF l k f.id).getD 0 = 0 := by unfold seenF; rw [hd]; rfl
            rw [e1] at this
            exact this
          have HE : Hid (errF l k = 0) := Lib.hid (by rw [hee.out]; exact if_neg (by show ¬ dupF l k f.id = true; rw [hd]; decide))
          clear hd
          go_upto_region 11 with (refine wpList_put int_kind (by rfl) _ _ _ 133 (by rfl) 3 3 Tryz.underlying3 Tryz.underlying133 0 w.heap.size k (seenF l k) _ (by rfl) HM1.out (by omega) f.id 1 (by rfl) (by rfl) hwf ?_; intro w3 hm3 hg3; have HM3 := Lib.hid hm3; have HG3 := Lib.hid hg3; clear hm3 hg3)
          have hl3 : (Instr.lookup 133 (.map (some w.heap.size)) (.int .i64 f.id) false).run Tryz.prog w3 = .ok (.int .i64 1) w3 := by
            have := HM3.out.look int_kind Tryz.underlying3 Tryz.underlying133 (zint w3) hwf
            simpa [iv] using this
          have hx3 := (World.cell?_of_block (w := w1) (HG3.out.block wr.heap.size (by omega) (fun e => by injection e; omega))).trans hx0
          have hs3 := HG3.out.size
          clear hl1 hx0
          go_wp2_with fail
          go_roundg (l.length - (k + 1))
          case measure => omega
          case rel => exact ⟨k + 1, by go_num, by omega, by omega, Lib.hid (by rw [scanF_succ HSC.out, HE.out]), Lib.hid (by rw [← seen_put HF.out]; exact HM3.out), Lib.hid (HW1.out.grown HG3.out HW1.out.size (fun q hq => by injection hq; omega)), by omega⟩
      · have HE := Lib.hid (errF_bad (l := l) HF.out hr)
        have hrb : (rightF f == 0) = false := by rw [beq_eq_false_iff_ne]; exact hr
        have hrn : (rightF f != 0) = true := by rw [bne_iff_ne]; exact hr
        have HRN := Lib.hid hr
        clear hr
        generalize hrx : rightF f = rx at *
        have HRX := Lib.hid hrx
        clear hrx
        go_wp2_with (go_at_call 133; (with_reducible refine (HR.out _).mono ?_); rintro e' w1 ⟨rfl, hb1⟩; have HB1 := Lib.hid hb1; clear hb1)
        go_ret2
        exact .inl ⟨by rw [e.out, scanF_hit HSC.out (by rw [HE.out]; exact HRN.out) l.length hlt, HE.out]; exact HRN.out, by rw [e.out, scanF_hit HSC.out (by rw [HE.out]; exact HRN.out) l.length hlt, HE.out]; rfl, HWu.out.trans (HB1.out.mono HWu.out.size)⟩
    · have hltz : ¬ (k : Int) < (l.length : Int) := by omega
      obtain rfl : k = l.length := by omega
      have HO := Lib.hid (HOF.out wr HW.out)
      unfold OfOk at HO
      go_wp2_with (go_at_call 134; (with_reducible refine (HO.out).mono ?_); rintro e' w1 ⟨T, rfl, hT, hle, hb1⟩; have HT := Lib.hid hT; have HB1 := Lib.hid hb1; have HLE := Lib.hid hle; clear hT hb1 hle)
      go_ret2
      exact .inr ⟨by rw [e.out, HSC.out], T, rfl, HT.out, by have := HLE.out; have := HW.out.size; omega, HW.out.trans (HB1.out.mono HW.out.size)⟩
end Go.Proofs.YtpchhfhmopmagaaGreat.Fi

/- ftable.Table.All, Len. -/
namespace Go.Proofs.YtpchhfhmopmagaaGreat.Fi
open Go.RowKit Go.Shelf Go.Sort Go.Maps Go.Proofs.YtpchhfhmopmagaaGreat.Wd Go.Proofs.YtpchhfhmopmagaaGreat.Li Go.Proofs.YtpchhfhmopmagaaGreat.Mp Go.Proofs.YtpchhfhmopmagaaGreat.Tr Go.Proofs.YtpchhfhmopmagaaGreat.So
attribute [local go_sem] Oper.semAt_some

set_option maxRecDepth 100000 in
set_option maxHeartbeats 4000000 in
theorem all1_in (Fe : Fence) (n : Nat) (h7 : Fe.fn 135) (hro : Fe.round = none) (hn : 1 ≤ n) (l Bs n₀ T cap : Nat) (A : Option Addr) (zs : List F) (hreach : zs.length ≤ 1048576) (hTn : T < n₀) (J Jx : List F → World → Prop)
    (hY : ∀ pre x W, J pre W → pre.length < zs.length → YieldAt Fe (n - 1) Tryz.prog l #[x.agg] W fun e W' =>
      (e = .returned (.bool true) ∧ J (pre ++ [x]) W' ∧ Below n₀ W W') ∨ (e = .returned (.bool false) ∧ Jx (pre ++ [x]) W'))
    (W : World) (hn₀ : n₀ ≤ W.heap.size) (hJ : AbidesFrom W.heap.size J) (hBs : W.cell? ⟨Bs, 0, none⟩ = some (.pointer (some ⟨T, 0, none⟩))) (hTc : W.cell? ⟨T, 0, none⟩ = some (.slice A zs.length cap)) (hI : HoldsF n₀ W (.slice A zs.length cap) zs) (h0 : J [] W) :
    CallsIn Fe n Tryz.prog 135 #[.func (.yield l) #[] #[], .pointer (some ⟨Bs, 0, none⟩)] W fun e W' => (∃ v, e = .returned v) ∧
      (J zs W' ∨ (∃ pre, pre <+: zs ∧ Jx pre W')) := by
  refine callsIn_of_wp Tryz.func135 rfl h7 ?_ hro
  simp only [Tryz.ntmps135, List.size_toArray, List.length_cons, List.length_nil, Nat.reduceAdd, Nat.reduceSub, Array.replicate_succ, Array.replicate_zero, List.push_toArray, List.append_toArray, List.nil_append, List.cons_append]
  gi_wp2
  gi_loopw [12] (fun i wr => ∃ k : Nat, k ≤ zs.length ∧ i = .int .i64 k ∧ J (zs.take k) wr ∧ Below n₀ W wr)
    (fun i _ => zs.length - (intOf i).toNat)
  case atStart => exact ⟨0, Nat.zero_le _, rfl, by simpa using h0, Below.refl _ _⟩
  case round =>
    obtain ⟨k, hk, rfl, hJs, hnx⟩ := hrel
    by_cases hlt : k < zs.length
    · obtain ⟨x, hx⟩ : ∃ x, zs[k]? = some x := ⟨zs[k], List.getElem?_eq_getElem hlt⟩
      obtain ⟨_, hcs⟩ := Li.Lies.parts hI
      obtain ⟨b, off, rfl, hb, hc⟩ := hcs (by omega)
      have hcx : ∀ (i : Nat) (v : Value), x.cells[i]? = some v → wr.cell? ⟨b, off + k * 15 + i, none⟩ = some v := fun i v hv => (hnx.cell (p := ⟨b, off + k * 15 + i, none⟩) hb).trans (hc k x hx i v hv)
      have c0 : wr.cell? ⟨b, off + k * 15, none⟩ = some (.int .i64 x.id) := hcx 0 _ rfl
      have c1 := hcx 1 _ rfl
      have c2 := hcx 2 _ rfl
      have c3 := hcx 3 _ rfl
      have c4 := hcx 4 _ rfl
      have c5 := hcx 5 _ rfl
      have c6 := hcx 6 _ rfl
      have c7 := hcx 7 _ rfl
      have c8 := hcx 8 _ rfl
      have c9 := hcx 9 _ rfl
      have c10 := hcx 10 _ rfl
      have c11 := hcx 11 _ rfl
      have c12 := hcx 12 _ rfl
      have c13 := hcx 13 _ rfl
      have c14 := hcx 14 _ rfl
      have hJ2 : J (zs.take k) (wr.alloc (.cells #[.int .i64 x.id, .int .i64 x.prio, .int .i64 x.ver, .int .u64 x.sh, .int .u64 x.sl, .int .u64 x.dh, .int .u64 x.dl, .int .i64 x.sn, .int .i64 x.dn, .int .i64 x.proto, .int .i64 x.s0, .int .i64 x.s1, .int .i64 x.d0, .int .i64 x.d1, .int .i64 x.leaf] 98)) :=
        hJ _ wr _ none hJs (World.grownBy_alloc wr _ none) (fun r e => by cases e)
      obtain ⟨fn, tmps, assign, body, hy, hR⟩ := hY _ x _ hJ2 (by rw [List.length_take]; omega)
      dsimp only [F.agg] at hy
      have hnx2 := hnx.alloc (Nat.le_trans hn₀ hnx.size) (.cells #[.int .i64 x.id, .int .i64 x.prio, .int .i64 x.ver, .int .u64 x.sh, .int .u64 x.sl, .int .u64 x.dh, .int .u64 x.dl, .int .i64 x.sn, .int .i64 x.dn, .int .i64 x.proto, .int .i64 x.s0, .int .i64 x.s1, .int .i64 x.d0, .int .i64 x.d1, .int .i64 x.leaf] 98)
      gi_wp2
      refine hR.mono ?_
      rintro e W3 (⟨rfl, hJ3, hk3⟩ | ⟨rfl, hJx3⟩)
      · gi_wp2
        go_roundw
        case rel => exact ⟨k + 1, by omega, by simp, by rw [List.take_add_one, hx]; exact hJ3, hnx2.trans hk3⟩
        case measure => simp [intOf]; omega
      · gi_wp2
        refine bodyPost_ret (results_none rfl _ _ _) rfl ?_
        exact ⟨⟨_, rfl⟩, .inr ⟨_, by rw [show zs.take k ++ [x] = zs.take (k + 1) by rw [List.take_add_one, hx]; rfl]; exact List.take_prefix _ _, hJx3⟩⟩
    · obtain rfl : k = zs.length := by omega
      gi_wp2
      go_end0
      exact ⟨⟨_, rfl⟩, .inl (by simpa using hJs)⟩
theorem all_c (T : Nat) (w : World) :
    Calls Tryz.prog 60 #[.pointer (some ⟨T, 0, none⟩)] w fun e w' => e = .returned (.func (.func 135) #[] #[.pointer (some ⟨w.heap.size, 0, none⟩)]) ∧ w' = w.alloc (.cells #[.pointer (some ⟨T, 0, none⟩)] 109) := by
  go_enter Tryz.func60, Tryz.ntmps60
  go_wp2
  go_ret
  exact ⟨rfl, rfl⟩
theorem all_stops (Fe : Fence) (n : Nat) (h7 : Fe.fn 135) (hro : Fe.round = none) (hn : 1 ≤ n) (Bs n₀ T : Nat) (l : List F) (h64 : l.length ≤ 64) (w : World) (hBs : Bs < w.heap.size) (hn₀ : n₀ ≤ w.heap.size)
    (hc : w.cell? ⟨Bs, 0, none⟩ = some (.pointer (some ⟨T, 0, none⟩))) (hT : TableAt w n₀ T l) :
    SeqStopsK Fe n Tryz.prog 135 #[.pointer (some ⟨Bs, 0, none⟩)] (fun x : F => #[x.agg]) (Below n₀) (fun ys => ys = sortK ordK l) (fun pre => pre <+: sortK ordK l) (sortK ordK l).length w := fun yl J Jx W hW hJ _ hY h0 => by
  have hlen : (sortK ordK l).length = l.length := sortK_len l
  obtain ⟨h, A, c, s, kf, hTn, hh, h1, h2, h3, h4, h5, h6⟩ := hT
  have hTc := cells_at ((hW.block _ (Nat.lt_of_lt_of_le hTn hn₀)).trans h1) 0 _ rfl
  rw [← hlen] at h2 hTc
  refine (all1_in Fe n h7 hro hn yl Bs n₀ T c A (sortK ordK l) (by omega) hTn J Jx hY W (Nat.le_trans hn₀ hW.size) hJ ((hW.cell (p := ⟨Bs, 0, none⟩) hBs).trans hc) hTc (Li.Lies.below (hW.mono hn₀) h2) h0).mono ?_
  rintro e W' ⟨he, hj | ⟨pre, hp, hj⟩⟩
  · exact ⟨he, .inl ⟨_, rfl, hj⟩⟩
  · exact ⟨he, .inr ⟨_, hp, hj⟩⟩
end Go.Proofs.YtpchhfhmopmagaaGreat.Fi
