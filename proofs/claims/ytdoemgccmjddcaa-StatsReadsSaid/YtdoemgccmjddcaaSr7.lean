/- Delays. -/
import Derived.Test.YtdoemgccmjddcaaSr6
namespace Go.Proofs.Ytdoemgccmjddcaa.Sr
open Go.RowKit Go.Maps Go.Shelf Wd Li St

/-- 'append(s, u)' in a region that draws -/
theorem step_push1 {P : Program} (w : World) {ops : Array Oper} {o : Oper} {a : Act} {K : Act → World → Prop} {Q : Exit → Act → World → Prop} {E : Prop} (hgd : o.guard = none) (s x : Operand) (t : TypeId)
    (ho : o.op = .call { callee := .builtin .append, args := #[s, x], argTypes := #[t, t] })
    (base : Nat) (e : TypeId) (i : TypeInfo) (z : Value) (bytes : Nat) (ht : P.underlying t = some (.slice e)) (hi : P.info? e = some i) (hz : i.zero = some z)
    (hsize : i.size = 1) (hby : i.bytes = bytes) (hzs : z.cells.size = 1) (hb8 : bytes ≤ 4096) (u : Value) (h1 : u.oneCell' = true)
    (A : Option Addr) (k c : Nat) (xs : List Value) (hown : w.ownsRow base e 1 (.slice A k c) k xs) (hs : a.eval s = .slice A k c)
    (hx : a.eval x = .slice (some ⟨w.heap.size, 0, none⟩) 1 1) (hk : k < 16777216) (hbase : base ≤ w.heap.size)
    (h : ∀ A' c' w', w'.ownsRow base e 1 (.slice A' (k + 1) c') (k + 1) (xs ++ [u]) → (w.alloc (.cells #[u] e)).grownBy w' (Value.slice A k c).ownBlock → K (a.put o.dst (.slice A' (k + 1) c')) w') :
    if Region.wanted o (yielded ops a.tmps) = true then Oper.wp P o a (w.alloc (.cells #[u] e)) K Q else E := by
  refine step_append_lies _ hgd s x t ho base e i z 1 bytes ht hi hz hsize hby hzs (by decide) _ k xs hs (hown.alloc _) ⟨w.heap.size, 0, none⟩ 1 1 [u] hx (by simp) (fun j v hv => ?_) (by simpa using h1) (by decide) (by unfold maxLen; omega) ?_ (by simp; omega) _ rfl ?_
  · have hj : j = 0 := by have := (List.getElem?_eq_some_iff.1 hv).1; simp at this; exact this
    subst hj
    rw [add_zero_at]
    have hh := heap_alloc_new w (.cells #[u] e)
    have : u = v := by simpa using hv
    subst this
    unfold World.cell?
    rw [hh]
    simp
  · have : (k + 1) * bytes ≤ 16777216 * 4096 := Nat.mul_le_mul (by omega) hb8
    omega
  · intro g cap w' hown' hgrow _ _
    exact h _ _ _ hown' hgrow

theorem int_info : (Try.prog.info? 3).map (fun i => (i.zero, i.size, i.bytes)) = some (some (.int .i64 0), 1, 8) := by kernel_rfl

theorem MapsKept.trans {a b c : World} (h : MapsKept a b) (k : MapsKept b c) : MapsKept a c := fun i es ck hh => k i es ck (h i es ck hh)
theorem MapsKept.alloc (w : World) (o : Obj) : MapsKept w (w.alloc o) := fun k es ck h => (Below.heap_alloc w o k (lt_of_get h)).trans h
theorem MapsKept.drew (w : World) : MapsKept w w.drew := fun _ _ _ h => h
theorem maps_row {w w' : World} {base : Nat} {e : TypeId} {z : Nat} {A : Option Addr} {k c : Nat} {xs : List Value} (hown : w.ownsRow base e z (.slice A k c) k xs) (hg : w.grownBy w' (Value.slice A k c).ownBlock) : MapsKept w w' := by
  intro m es ck hm
  refine (hg.block m (lt_of_get hm) ?_).trans hm
  rcases hown.2 with ⟨e, _⟩ | ⟨g, cap, cur, e, _, hgg, _⟩
  · obtain ⟨rfl, _, _⟩ := Value.slice.inj e
    intro h; cases h
  · obtain ⟨rfl, _, _⟩ := Value.slice.inj e
    intro h; cases h
    rw [hgg] at hm; cases hm
theorem maps_set {w : World} {G : Nat} {u v : Value} {t : TypeId} (h : w.heap[G]? = some (.cells #[u] t (0, 0))) : MapsKept w (w.setCell ⟨G, 0, none⟩ v) := maps_grown h (grown_set w G v)

theorem own_ne {w : World} {base G : Nat} {e : TypeId} {z : Nat} {v : Value} {k : Nat} {xs : List Value} (hown : w.ownsRow base e z v k xs) (h : G < base) : some G ≠ v.ownBlock := by
  intro h2
  have := (hown.lt G h2.symm).1
  omega
/-- what a function that appends to a variable leaves -/
def Pushes (w : World) (G : Nat) (k : Nat) (xs : List Value) (e : Ending) (w' : World) : Prop :=
  ∃ v A c, e = .returned v ∧ w'.heap[G]? = some (.cells #[.slice A k c] 27 (0, 0)) ∧ w'.ownsRow (G + 1) 3 1 (.slice A k c) k xs ∧ Below G w w' ∧ MapsKept w w'

set_option maxRecDepth 20000 in
set_option maxHeartbeats 2000000 in
theorem delays1_c (x y : En) (G k c : Nat) (A : Option Addr) (xs : List Value) (w : World) (hG : w.heap[G]? = some (.cells #[.slice A k c] 27 (0, 0))) (hown : w.ownsRow (G + 1) 3 1 (.slice A k c) k xs) (hk : k < 1048577) :
    Calls Try.prog 110 #[x.agg, y.agg, .pointer (some ⟨G, 0, none⟩)] w (Pushes w G (k + 1) (xs ++ [.int .i64 (subS x.now y.now)])) := by
  obtain ⟨i0, hi, hz0, hz1, hz2⟩ := info_parts int_info
  have hlt := lt_of_get hG
  unfold En.agg
  go_enter Try.func110, Try.ntmps110
  go_upto_region 1 with fail
  generalize hW : World.alloc (World.alloc w _) _ = W
  have hx : ∀ (i : Nat) (v : Value), x.cells[i]? = some v → W.cell? ⟨w.heap.size, i, none⟩ = some v := by
    intro i v hv; rw [← hW]; exact Lib.cell?_alloc_some _ (new_en w x i v hv)
  have hy : ∀ (i : Nat) (v : Value), y.cells[i]? = some v → W.cell? ⟨w.heap.size + 1, i, none⟩ = some v := by
    intro i v hv; rw [← hW]; have := new_en (w.alloc (.cells #[.int .i64 x.kind, .string x.raw, .int .i64 x.n, .int .i64 x.okind, .int .i64 x.seq, .int .i64 x.leaf, .int .i64 x.lender, .int .i64 x.reason, .int .i64 x.now, .int .i64 x.wake, .string x.reply] 133)) y i v hv
    simpa using this
  have h8 := hx 8 _ rfl
  have g8 := hy 8 _ rfl
  have hGW : W.heap[G]? = some (.cells #[.slice A k c] 27 (0, 0)) := by
    rw [← hW]; exact (Below.heap_alloc _ _ _ (by simp; omega)).trans ((Below.heap_alloc _ _ _ hlt).trans hG)
  have hOW : W.ownsRow (G + 1) 3 1 (.slice A k c) k xs := by rw [← hW]; exact (hown.alloc _).alloc _
  have hBW : Below G w W := by rw [← hW]; exact ((Below.refl _ w).alloc (by omega) _).alloc (by simp; omega) _
  have hMW : MapsKept w W := by rw [← hW]; exact (MapsKept.alloc _ _).trans (MapsKept.alloc _ _)
  have hltW := lt_of_get hGW
  have hc := cell_at hGW
  have hf := frozen_at hGW
  have HGW := Lib.hid hGW
  have HOW : Hid (W.drew.ownsRow (G + 1) 3 1 (.slice A k c) k xs) := Lib.hid hOW
  have HBW := Lib.hid hBW
  have HMW := Lib.hid hMW
  have hGs : G + 1 ≤ W.drew.heap.size := hltW
  have hk63 : k < 16777216 := by omega
  have hne : some G ≠ (Value.slice A k c).ownBlock := own_ne hOW (Nat.lt_succ_self G)
  clear hx hy hW hGW hOW hBW hMW hG hown hk
  go_region_law (first
    | (refine step_push1 _ rfl _ _ 27 rfl (G + 1) 3 i0 _ 8 Try.underlying27 hi hz0 hz1 hz2 rfl (by decide) _ rfl A k c xs HOW.out (by simp [Act.eval, Act.put]) (by simp [Act.eval, Act.put]) hk63 hGs ?_; intro A' c' w2 hown2 hgrow2; have hG2 := (hgrow2.block G (by simp; omega) hne).trans ((Below.heap_alloc _ _ _ hltW).trans HGW.out); have hc2 := cell_at hG2; have hf2 := frozen_at hG2; have HG2 := Lib.hid hG2; clear hG2)
    | (go_simp; go_at_call 111; refine (sub_c _ _ _).mono ?_; rintro e w' ⟨rfl, rfl⟩))
  all_goals
    go_wp2
    (try simp only [Exit.inBlock, Exit.then])
    refine bodyPost_ret (results_none rfl _ _ _) rfl ?_
    refine ⟨_, A', c', rfl, store_at HG2.out, hown2.kept (grown_set w2 G _) (.inr (own_ne hown2 (Nat.lt_succ_self G)).symm), ?_, ?_⟩
    · exact (((HBW.out.drew).alloc (by simp; omega) _).grown hgrow2 (by simp; omega) (fun j hj => by have := (HOW.out.lt j hj).1; omega)).setCell (Nat.le_refl G) _
    · exact (((HMW.out.trans (MapsKept.drew W)).trans (MapsKept.alloc _ _)).trans (maps_row (HOW.out.alloc _) hgrow2)).trans (maps_set HG2.out)

def dels (ps : List (En × En)) : List Int := ps.map fun p => subS p.1.now p.2.now
/-- the relation of went's rounds, where the function appends -/
def Lists (G : Nat) (w0 : World) (ps : List (En × En)) (u : World) : Prop :=
  ∃ A c, u.heap[G]? = some (.cells #[.slice A ps.length c] 27 (0, 0)) ∧ u.ownsRow (G + 1) 3 1 (.slice A ps.length c) ps.length (I (dels ps)) ∧ Below w0.heap.size w0 u
theorem owns_keptC {u u2 : World} {base : Nat} {e : TypeId} {z : Nat} {v : Value} {k : Nat} {xs : List Value} (hc : CellsKept u u2) (h : u.ownsRow base e z v k xs) : u2.ownsRow base e z v k xs := by
  refine ⟨h.1, ?_⟩
  rcases h.2 with h0 | ⟨g, cap, cur, e1, e2, hg, r⟩
  · exact .inl h0
  · exact .inr ⟨g, cap, cur, e1, e2, hc.blk _ _ _ _ hg, r⟩
theorem Lists.kept {G : Nat} {w0 : World} {ps : List (En × En)} {u u2 : World} {B : Nat} (hB : w0.heap.size ≤ B) (h : Lists G w0 ps u) (hc : CellsKept u u2) (hb : Below B u u2) : Lists G w0 ps u2 := by
  obtain ⟨A, c, h1, h2, h3⟩ := h
  exact ⟨A, c, hc.blk _ _ _ _ h1, owns_keptC hc h2, h3.trans (hb.mono hB)⟩

set_option maxRecDepth 20000 in
set_option maxHeartbeats 1000000 in
theorem delays_c (A : Option Addr) (n c : Nat) (l : List En) (hlen : l.length ≤ 1048576) (hwf : ∀ (j : Nat) (x : En), l[j]? = some x → (Lit.int .i64 x.seq).wf = true) (w : World) (hI : Ls w.heap.size w (.slice A n c) l) :
    Calls Try.prog 33 #[.slice A n c] w fun e w' => ∃ B d, e = .returned (.slice B (went l l.length).length d) ∧ Sl w' w'.heap.size 1 B (went l l.length).length (I (dels (went l l.length))) ∧ Below w.heap.size w w' := by
  have hw := went_c 110 #[.pointer (some ⟨w.heap.size, 0, none⟩)] A n c l hlen hwf (Lists w.heap.size w)
    (enters_of Try.func110 (by kernel_rfl) rfl)
    (fun ps u ⟨_, _, _, _, h⟩ => (hI.below h).up h.size)
    (fun ps x y u ⟨A, c, h1, h2, h3⟩ hx hy hps => by
      refine (delays1_c x y w.heap.size ps.length c A _ u h1 h2 (by omega)).mono (fun e u2 ⟨v, A2, c2, he, g1, g2, g3, g4⟩ => ?_)
      refine ⟨v, he, ⟨A2, c2, by simpa using g1, ?_, h3.trans g3⟩, g4, g3.size⟩
      simpa [dels, I] using g2)
    (w.alloc (.cells #[.slice none 0 0] 27))
    (fun ps u1 u2 h hc hb => h.kept (by simp) hc hb)
    ⟨none, 0, heap_alloc_new w _, World.ownsRow_nil .., (Below.refl _ w).alloc (Nat.le_refl _) _⟩
  have HW := Lib.hid hw
  clear hw hI hwf
  go_enter Try.func33, Try.ntmps33
  go_wp2_with (go_at_call 108; refine (HW.out).mono ?_; rintro e w2 ⟨v, rfl, A2, c2, hs1, hs2, hs3⟩; have hcell := cell_at hs1; have HB := Lib.hid hs3; have HS := Lib.hid (Sl.of_own hs2); clear hs1 hs2 hs3)
  go_ret
  exact ⟨_, _, rfl, HS.out, HB.out⟩
end Go.Proofs.Ytdoemgccmjddcaa.Sr
