/- Compile: what the building loop keeps. -/
import Derived.Test.YtpchhfhmopmagaaGreatTpM
import Derived.Test.YtpchhfhmopmagaaGreatTr4
import Derived.Test.YtpchhfhmopmagaaGreatSw
import Derived.StillTailTactics
set_option linter.unusedVariables false
set_option linter.unusedSimpArgs false
namespace Go.Proofs.YtpchhfhmopmagaaGreat.Tr
open Go.RowKit Go.Maps Go.Proofs.YtpchhfhmopmagaaGreat.Wd Go.Proofs.YtpchhfhmopmagaaGreat.Li Go.Proofs.YtpchhfhmopmagaaGreat.Mp Go.Proofs.YtpchhfhmopmagaaGreat.Tp Go.Proofs.YtpchhfhmopmagaaGreat.Cl Go.Proofs.YtpchhfhmopmagaaGreat.So

theorem zcls (w : World) : (zeroValue 84).run Tryz.prog w = .ok (clsV clsZ) w := by kernel_rfl
theorem int_inf : (Tryz.prog.info? 3).map (fun i => (i.zero, i.size, i.bytes)) = some (some (.int .i64 0), 1, 8) := by kernel_rfl
abbrev Cla (w : World) (C n : Nat) (f : Int → Option Cls) : Prop := At clsV clsE clsZ Tryz.prog 3 w C n f
def rowOf (kf : Int → Option Sv) (p : Int) : Option Nat := ((kf p).getD Sv.nil).g

/-- the tree in the making, its maps at h, h + 1, h + 2, the tree at h + 3, the rows from base on; k classes are in -/
structure Bld (w : World) (h base : Nat) (l : List Cls) (r : Int) (ki kc kk : Nat) (s : Sv) (kf : Int → Option Sv) : Prop where
  n : s.n = ki
  cell : w.heap[h + 3]? = some (.cells #[s.val, .map (some h), .map (some (h + 1)), .map (some (h + 2)), .int .i64 r] 135 (0, 0))
  idr : w.ownsRow base 3 1 s.val ((ids ((sortC l).take ki))).length (St.I (ids ((sortC l).take ki)))
  cls : Cla w h kc (clsF l kc)
  kid : Kid w base (kidsP l kk) (h + 1) kk kf
  ap : ∀ p q, p ≠ q → rowOf kf p = none ∨ rowOf kf p ≠ rowOf kf q
  api : ∀ p, rowOf kf p = none ∨ rowOf kf p ≠ s.g
  lev : Lev w (h + 2) 0 (fun _ => none)
  lt : h + 4 ≤ base

theorem own_same {w w' : World} {base z n : Nat} {e : TypeId} {v : Value} {xs : List Value} (h : w.ownsRow base e z v n xs) (hb : ∀ g, v.ownBlock = some g → w'.heap[g]? = w.heap[g]?) : w'.ownsRow base e z v n xs := by
  refine ⟨h.1, ?_⟩
  rcases h.2 with h0 | ⟨g, cap, cur, e1, e2, hg, r⟩
  · exact .inl h0
  · exact .inr ⟨g, cap, cur, e1, e2, (hb g (by rw [e1]; rfl)).trans hg, r⟩
theorem Bld.same {w w' : World} {h base : Nat} {l : List Cls} {r : Int} {ki kc kk : Nat} {s : Sv} {kf : Int → Option Sv} (b : Bld w h base l r ki kc kk s kf) (hb : ∀ g, g < w.heap.size → w'.heap[g]? = w.heap[g]?) : Bld w' h base l r ki kc kk s kf where
  n := b.n
  cell := (hb _ (lt_get b.cell)).trans b.cell
  idr := own_same b.idr fun g hg => hb g (b.idr.lt g hg).2
  cls := b.cls.block (hb _ b.cls.lt)
  kid := ⟨b.kid.map.block (hb _ b.kid.map.lt), fun id => own_same (b.kid.row id) fun g hg => hb g ((b.kid.row id).lt g hg).2, b.kid.lt⟩
  ap := b.ap
  api := b.api
  lev := b.lev.block (hb _ b.lev.lt)
  lt := b.lt
theorem row_lt {w : World} {h base : Nat} {l : List Cls} {r : Int} {ki kc kk : Nat} {s : Sv} {kf : Int → Option Sv} (b : Bld w h base l r ki kc kk s kf) {p : Int} {g : Nat} (hg : rowOf kf p = some g) : base ≤ g ∧ g < w.heap.size := (b.kid.row p).lt g (by rw [own_val]; exact hg)
theorem idr_lt {w : World} {h base : Nat} {l : List Cls} {r : Int} {ki kc kk : Nat} {s : Sv} {kf : Int → Option Sv} (b : Bld w h base l r ki kc kk s kf) {g : Nat} (hg : s.g = some g) : base ≤ g ∧ g < w.heap.size := b.idr.lt g (by rw [own_val]; exact hg)

/-- 'append(s, y)' of one number on a slice of the call's own: where the new slice lies -/
theorem wpList_push_at {ops : Array Oper} {rest : List Oper} {o : Oper} {a : Act} {Q : Exit → Act → World → Prop} (hgd : o.guard = none) (s x : Operand) (t : TypeId)
    (ho : o.op = .call { callee := .builtin .append, args := #[s, x], argTypes := #[t, t] }) (ht : Tryz.prog.underlying t = some (.slice 3)) (base : Nat) (y : Int) (w : World)
    (v : Value) (zs : List Int) (hs : a.eval s = v) (hown : w.ownsRow base 3 1 v zs.length (St.I zs)) (hx : a.eval x = .slice (some ⟨w.heap.size, 0, none⟩) 1 1) (hn : zs.length < 1048576) (hbase : base ≤ w.heap.size)
    (h : ∀ g cap w', w'.ownsRow base 3 1 (Sv.val ⟨some g, zs.length + 1, cap⟩) (zs ++ [y]).length (St.I (zs ++ [y])) → (w.alloc (.cells #[.int .i64 y] 3)).grownBy w' v.ownBlock → (v.ownBlock = some g ∨ g = w.heap.size + 1) → wpList Tryz.prog ops Q rest (a.put o.dst (.slice (some ⟨g, 0, none⟩) (zs.length + 1) cap)) w') :
    wpList Tryz.prog ops Q (o :: rest) a (w.alloc (.cells #[.int .i64 y] 3)) := by
  obtain ⟨i0, hi, hz0, hz1, hz2⟩ := info_parts int_inf
  refine wpList_append_lies _ hgd s x t ho base 3 i0 _ 1 8 ht hi hz0 hz1 hz2 rfl (by decide) v zs.length (St.I zs) hs (hown.alloc _) ⟨w.heap.size, 0, none⟩ 1 1 [.int .i64 y] hx rfl (fun j u hu => ?_) (by simp [Value.oneCell']) (by decide) (by unfold maxLen; omega) (by omega) (by simp; omega) _ rfl ?_
  · have hj : j = 0 := by have := (List.getElem?_eq_some_iff.1 hu).1; simp at this; exact this
    subst hj
    rw [add_zero_at]
    have hh := heap_alloc_new w (.cells #[.int .i64 y] 3)
    have : Value.int .i64 y = u := by simpa using hu
    subst this
    unfold World.cell?
    rw [hh]; simp
  · intro g cap w' hown' hg hl _
    exact h g cap w' (by simpa [Sv.val, St.I] using hown') hg (by simpa using hl)

/-- the id is appended -/
theorem Bld.ids {u ua u2 : World} {h base : Nat} {l : List Cls} {r : Int} {ki kc kk : Nat} {s : Sv} {kf : Int → Option Sv} (b : Bld u h base l r ki kc kk s kf) {x : Cls} (hx : (sortC l)[ki]? = some x) {g cap : Nat} {o : Obj}
    (hown : ua.ownsRow base 3 1 (Sv.val ⟨some g, (Tp.ids ((sortC l).take ki)).length + 1, cap⟩) (Tp.ids ((sortC l).take ki) ++ [x.id]).length (St.I (Tp.ids ((sortC l).take ki) ++ [x.id])))
    (hg : (u.alloc o).grownBy ua s.g) (hl : s.g = some g ∨ g = u.heap.size + 1) (h2 : u2 = ua.setCell ⟨h + 3, 0, none⟩ (Sv.val ⟨some g, (Tp.ids ((sortC l).take ki)).length + 1, cap⟩)) :
    Bld u2 h base l r (ki + 1) kc kk ⟨some g, (Tp.ids ((sortC l).take ki)).length + 1, cap⟩ kf := by
  have hki := (List.getElem?_eq_some_iff.1 hx).1
  have hlen : (Tp.ids ((sortC l).take ki)).length = ki := by unfold Tp.ids; rw [List.length_map, List.length_take]; omega
  have htk : Tp.ids ((sortC l).take (ki + 1)) = Tp.ids ((sortC l).take ki) ++ [x.id] := by unfold Tp.ids; rw [List.take_add_one, hx, List.map_append]; rfl
  have hT := lt_get b.cell
  have hsb : ∀ q, s.g = some q → base ≤ q := fun q hq => (idr_lt b hq).1
  have hgb : base ≤ g := (hown.lt g rfl).1
  have hlt := b.lt
  have hua : ∀ q, q < u.heap.size → s.g ≠ some q → ua.heap[q]? = u.heap[q]? := fun q hq hne => (hg.block q (by simp; omega) (Ne.symm hne)).trans (Below.heap_alloc u o q hq)
  have hu2 : ∀ q, q ≠ h + 3 → u2.heap[q]? = ua.heap[q]? := fun q hq => by rw [h2]; exact Below.heap_setCell _ _ _ _ hq
  have hall : ∀ q, q < u.heap.size → s.g ≠ some q → q ≠ h + 3 → u2.heap[q]? = u.heap[q]? := fun q hq hne h3 => (hu2 q h3).trans (hua q hq hne)
  have small : ∀ q, q < base → s.g ≠ some q := fun q hq e => by have := hsb q e; omega
  refine ⟨by simp [hlen], ?_, ?_, ?_, ⟨?_, ?_, b.kid.lt⟩, b.ap, ?_, ?_, b.lt⟩
  · have hc := (hua (h + 3) hT (small _ (by omega))).trans b.cell
    rw [h2]
    simp [World.setCell, Array.getElem?_modify, hc]
  · rw [htk]
    refine own_same hown fun q hq => hu2 q ?_
    have : q = g := by injection hq with e; exact e.symm
    omega
  · exact b.cls.block (hall _ b.cls.lt (small _ (by omega)) (by omega))
  · exact b.kid.map.block (hall _ b.kid.map.lt (small _ (by omega)) (by omega))
  · intro id
    refine own_same (b.kid.row id) fun q hq => ?_
    have hq' : rowOf kf id = some q := by rw [own_val] at hq; exact hq
    have hr := row_lt b hq'
    refine hall q hr.2 (fun e => ?_) (by omega)
    rcases b.api id with h0 | h0
    · rw [h0] at hq'; cases hq'
    · exact h0 (hq'.trans e.symm)
  · intro p
    rcases b.api p with h0 | h0
    · exact .inl h0
    · cases hp : rowOf kf p with
      | none => exact .inl rfl
      | some q =>
        refine .inr fun e => ?_
        injection e with e
        have hr := row_lt b hp
        rcases hl with hl | hl
        · rw [hp, e] at h0; exact h0 hl.symm
        · omega
  · exact b.lev.block (hall _ b.lev.lt (small _ (by omega)) (by omega))
/-- the class is noted -/
theorem Bld.cls' {u u2 : World} {h base : Nat} {l : List Cls} {r : Int} {ki kc kk : Nat} {s : Sv} {kf : Int → Option Sv} (b : Bld u h base l r ki kc kk s kf) {x : Cls} (hx : (sortC l)[kc]? = some x)
    (hp : Cla u2 h (kc + 1) (fun i => if i = x.id then some x else clsF l kc i)) (hg : u.grownBy u2 (some h)) : Bld u2 h base l r ki (kc + 1) kk s kf := by
  have hlt := b.lt
  have hall : ∀ q, q < u.heap.size → q ≠ h → u2.heap[q]? = u.heap[q]? := fun q hq hne => hg.block q hq (fun e => hne (by injection e))
  refine ⟨b.n, (hall _ (lt_get b.cell) (by omega)).trans b.cell, own_same b.idr fun q hq => hall q (b.idr.lt q hq).2 (by have := (b.idr.lt q hq).1; omega), by rw [clsF_succ hx]; exact hp, ⟨b.kid.map.block (hall _ b.kid.map.lt (by omega)), fun id => own_same (b.kid.row id) fun q hq => hall q ((b.kid.row id).lt q hq).2 (by have := ((b.kid.row id).lt q hq).1; omega), b.kid.lt⟩, b.ap, b.api, b.lev.block (hall _ b.lev.lt (by omega)), b.lt⟩
/-- no parent: no child -/
theorem Bld.top {u : World} {h base : Nat} {l : List Cls} {r : Int} {ki kc kk : Nat} {s : Sv} {kf : Int → Option Sv} (b : Bld u h base l r ki kc kk s kf) {x : Cls} (hx : (sortC l)[kk]? = some x) (hp : x.parent = 0) : Bld u h base l r ki kc (kk + 1) s kf :=
  ⟨b.n, b.cell, b.idr, b.cls, ⟨b.kid.map.more (Nat.le_succ kk), fun id => by rw [kidsP_out hx (.inr hp)]; exact b.kid.row id, b.kid.lt⟩, b.ap, b.api, b.lev, b.lt⟩
/-- the child is appended, and noted -/
theorem Bld.kid' {u ua u2 : World} {h base : Nat} {l : List Cls} {r : Int} {ki kc kk : Nat} {s : Sv} {kf : Int → Option Sv} (b : Bld u h base l r ki kc kk s kf) {x : Cls} (hx : (sortC l)[kk]? = some x) (hp : x.parent ≠ 0) {g cap : Nat} {o : Obj}
    (hown : ua.ownsRow base 3 1 (Sv.val ⟨some g, (kidsP l kk x.parent).length + 1, cap⟩) (kidsP l kk x.parent ++ [x.id]).length (St.I (kidsP l kk x.parent ++ [x.id])))
    (hg : (u.alloc o).grownBy ua (rowOf kf x.parent)) (hl : rowOf kf x.parent = some g ∨ g = u.heap.size + 1)
    (hm : At Sv.val Sv.enc Sv.nil Tryz.prog 3 u2 (h + 1) (kk + 1) (fun i => if i = x.parent then some ⟨some g, (kidsP l kk x.parent).length + 1, cap⟩ else kf i)) (hg2 : ua.grownBy u2 (some (h + 1))) :
    Bld u2 h base l r ki kc (kk + 1) s (fun i => if i = x.parent then some ⟨some g, (kidsP l kk x.parent).length + 1, cap⟩ else kf i) := by
  have hlt := b.lt
  have hgb : base ≤ g := (hown.lt g rfl).1
  have hua : ∀ q, q < u.heap.size → rowOf kf x.parent ≠ some q → ua.heap[q]? = u.heap[q]? := fun q hq hne => (hg.block q (by simp; omega) (Ne.symm hne)).trans (Below.heap_alloc u o q hq)
  have hus : u.heap.size ≤ ua.heap.size := by have := hg.size; simp at this; omega
  have hall : ∀ q, q < u.heap.size → rowOf kf x.parent ≠ some q → q ≠ h + 1 → u2.heap[q]? = u.heap[q]? := fun q hq hne h3 => (hg2.block q (by omega) (fun e => h3 (by injection e))).trans (hua q hq hne)
  have small : ∀ q, q < base → rowOf kf x.parent ≠ some q := fun q hq e => by have := (row_lt b e).1; omega
  -- the new row against any other block
  have other : ∀ p, p ≠ x.parent → rowOf kf p = none ∨ rowOf kf p ≠ some g := fun p hne => by
    cases hpp : rowOf kf p with
    | none => exact .inl rfl
    | some q =>
      refine .inr fun e => ?_
      injection e with e
      subst e
      have hr := row_lt b hpp
      rcases hl with hl | hl
      · rcases b.ap p x.parent hne with h0 | h0
        · rw [h0] at hpp; cases hpp
        · exact h0 (hpp.trans hl.symm)
      · omega
  have hsg : s.g = none ∨ s.g ≠ some g := by
    cases hs : s.g with
    | none => exact .inl rfl
    | some q =>
      refine .inr fun e => ?_
      injection e with e
      subst e
      have hr := idr_lt b hs
      rcases hl with hl | hl
      · rcases b.api x.parent with h0 | h0
        · rw [h0] at hl; cases hl
        · exact h0 (hl.trans hs.symm)
      · omega
  have new : ∀ p, rowOf (fun i => if i = x.parent then some ⟨some g, (kidsP l kk x.parent).length + 1, cap⟩ else kf i) p = if p = x.parent then some g else rowOf kf p := fun p => by
    unfold rowOf
    by_cases e : p = x.parent
    · simp [e]
    · simp [e]
  refine ⟨b.n, (hall _ (lt_get b.cell) (small _ (by omega)) (by omega)).trans b.cell, ?_, b.cls.block (hall _ b.cls.lt (small _ (by omega)) (by omega)), ⟨hm, ?_, b.kid.lt⟩, ?_, ?_, b.lev.block (hall _ b.lev.lt (small _ (by omega)) (by omega)), b.lt⟩
  · refine own_same b.idr fun q hq => ?_
    rw [own_val] at hq
    have hr := idr_lt b hq
    refine hall q hr.2 (fun e => ?_) (by omega)
    rcases b.api x.parent with h0 | h0
    · rw [h0] at e; cases e
    · exact h0 (e.trans hq.symm)
  · intro id
    by_cases e : id = x.parent
    · subst e
      simp only [if_true, Option.getD_some]
      rw [kidsP_in hx hp]
      refine own_same hown fun q hq => hg2.block q ((hown.lt q hq).2) (fun e => ?_)
      injection e with e
      have := (hown.lt q hq).1
      omega
    · simp only [if_neg e]
      rw [kidsP_out hx (.inl e)]
      refine own_same (b.kid.row id) fun q hq => ?_
      have hq' : rowOf kf id = some q := by rw [own_val] at hq; exact hq
      have hr := row_lt b hq'
      refine hall q hr.2 (fun e2 => ?_) (by omega)
      rcases b.ap id x.parent e with h0 | h0
      · rw [h0] at hq'; cases hq'
      · exact h0 (hq'.trans e2.symm)
  · intro p q hpq
    rw [new, new]
    by_cases ep : p = x.parent
    · rw [if_pos ep]
      have eq : q ≠ x.parent := fun e => hpq (ep.trans e.symm)
      rw [if_neg eq]
      rcases other q eq with h0 | h0
      · rw [h0]; exact .inr (fun e => by cases e)
      · exact .inr (fun e => h0 e.symm)
    · rw [if_neg ep]
      by_cases eq : q = x.parent
      · rw [if_pos eq]; exact other p ep
      · rw [if_neg eq]; exact b.ap p q hpq
  · intro p
    rw [new]
    by_cases ep : p = x.parent
    · rw [if_pos ep]
      rcases hsg with h0 | h0
      · rw [h0]; exact .inr (fun e => by cases e)
      · exact .inr (fun e => h0 e.symm)
    · rw [if_neg ep]; exact b.api p
end Go.Proofs.YtpchhfhmopmagaaGreat.Tr
