/- What a tree is asked. -/
import Derived.Test.YtpchhfhmopmagaaGreatTr6
import Derived.Laws.Cover3
set_option linter.unusedVariables false
set_option linter.unusedSimpArgs false
namespace Go.Proofs.YtpchhfhmopmagaaGreat.Tr
open Go.RowKit Go.Maps Go.Proofs.YtpchhfhmopmagaaGreat.Wd Go.Proofs.YtpchhfhmopmagaaGreat.Li Go.Proofs.YtpchhfhmopmagaaGreat.Mp Go.Proofs.YtpchhfhmopmagaaGreat.Tp Go.Proofs.YtpchhfhmopmagaaGreat.Cl Go.Proofs.YtpchhfhmopmagaaGreat.So
attribute [local go_sem] run_store_float
theorem run_eql_slice_nil {P : Program} (w : World) (t e : TypeId) (a : Option Addr) (l c : Nat) (h : P.underlying t = some (.slice e)) : (binOp .eql t (.slice a l c) (.slice none 0 0)).run P w = .ok (.bool a.isNone) w := by
  simp [binOp, run_equal_slice_nil w t e a l c h, Result.andThen]

def ListOk (zs : List Int) (w : World) (e : Ending) (w' : World) : Prop := ∃ A c, e = .returned (.slice A zs.length c) ∧ Sl w' w'.heap.size 1 A zs.length (St.I zs) ∧ Below w.heap.size w w'
theorem sl_none {w : World} {B n : Nat} {zs : List Int} (h : Sl w B 1 none n (St.I zs)) : zs = [] := by
  have h1 := h.1
  cases zs with
  | nil => rfl
  | cons z zs =>
    have hn : 0 < n := by simp [St.I] at h1; omega
    obtain ⟨a, e, _⟩ := h.2 hn
    cases e

set_option maxRecDepth 20000 in
set_option maxHeartbeats 1000000 in
theorem clone_c (A : Option Addr) (c : Nat) (zs : List Int) (hlen : zs.length ≤ 1048576) (B : Nat) (w : World) (_hB : B ≤ w.heap.size) (hs : Sl w B 1 A zs.length (St.I zs)) :
    Calls Tryz.prog 67 #[.slice A zs.length c] w (ListOk zs w) := by
  cases A with
  | none =>
    obtain rfl := sl_none hs
    have heq := fun w => run_eql_slice_nil (P := Tryz.prog) w 38 3 none 0 c Tryz.underlying38
    clear hs
    go_enter Tryz.func67, Tryz.ntmps67
    go_wp2
    go_ret
    exact ⟨none, 0, rfl, Sl.nil, Below.refl _ _⟩
  | some a =>
    obtain ⟨i0, hi, hz0, hz1, hz2⟩ := info_parts int_inf
    have hN : Li.News w 1 (.slice (some a) zs.length c) zs.length (St.I zs) := by
      refine .inl ⟨a, c, rfl, by simp [St.I], fun j u hu => ?_⟩
      have hj := (List.getElem?_eq_some_iff.1 hu).1
      obtain ⟨a', e, _, hc⟩ := hs.2 (by simp [St.I] at hj; omega)
      cases e
      exact hc j u hu
    have HN := Lib.hid hN
    have h1 : ∀ u ∈ St.I zs, u.oneCell' = true := fun u hu => by
      unfold St.I at hu
      obtain ⟨z, _, rfl⟩ := List.mem_map.1 hu
      rfl
    have H1 := Lib.hid h1
    have heq := fun w => run_eql_slice_nil (P := Tryz.prog) w 38 3 (some a) zs.length c Tryz.underlying38
    clear hs hN h1
    go_enter Tryz.func67, Tryz.ntmps67
    go_wp2_with ((at_builtin; go_must (refine Li.wpList_cats (by rfl) _ _ 38 (by rfl) w.heap.size 3 i0 _ 1 8 Tryz.underlying38 hi hz0 hz1 hz2 rfl (by decide) (by decide) _ _ _ [] (World.ownsRow_made w #[] 0 (Nat.le_refl _) (Nat.zero_le _) rfl) (by rfl) _ zs.length (St.I zs) (by rfl) (HN.out.alloc _) H1.out (by decide) (by omega) (by simp) zs.length (St.I zs) (Nat.zero_add _) rfl ?_); intro A1 c1 w1 hown1 hb1; have HO := Lib.hid hown1; have HB := Lib.hid hb1; clear hown1 hb1))
    go_ret
    exact ⟨_, _, rfl, Sl.of_own HO.out, ((Below.refl _ w).alloc (Nat.le_refl _) _).trans HB.out⟩

theorem TreeAt.open {w : World} {B T : Nat} {l : List Cls} (t : TreeAt w B T l) : ∃ (h : Nat) (A : Option Addr) (c : Nat) (kf : Int → Option Sv), T = h + 3 ∧ T < B ∧
  w.heap[h + 3]? = some (.cells #[.slice A l.length c, .map (some h), .map (some (h + 1)), .map (some (h + 2)), .int .i64 (rootS l)] 135 (0, 0)) ∧
  Sl w B 1 A l.length (St.I (ids (sortC l))) ∧ Cla w h 64 (at? l) ∧ At Sv.val Sv.enc Sv.nil Tryz.prog 3 w (h + 1) 64 kf ∧
  (∀ id, ∃ A' c', ((kf id).getD Sv.nil).val = .slice A' (kids l id).length c' ∧ Sl w B 1 A' (kids l id).length (St.I (kids l id))) ∧
  Lev w (h + 2) 64 (notes l (fun _ => none) (ids l)) := t
theorem ids_len (l : List Cls) : (ids (sortC l)).length = l.length := by unfold ids; rw [List.length_map]; exact sortC_len l
theorem kids_len (l : List Cls) (id : Int) : (kids l id).length ≤ l.length := by
  unfold kids; rw [List.length_map]
  exact Nat.le_trans (List.length_filter_le _ _) (by rw [sortC_len]; exact Nat.le_refl _)

set_option maxRecDepth 20000 in
theorem tids_c (T : Nat) (l : List Cls) (hl : l.length ≤ 64) (w : World) (hT : TreeAt w w.heap.size T l) : Calls Tryz.prog 23 #[.pointer (some ⟨T, 0, none⟩)] w (ListOk (ids (sortC l)) w) := by
  obtain ⟨h, A, c, kf, rfl, _, hc, hs, _⟩ := hT
  have t0 := cells_at hc 0 _ rfl
  have hcl := clone_c A c (ids (sortC l)) (by rw [ids_len]; omega) w.heap.size w (Nat.le_refl _) (by rw [ids_len]; exact hs)
  rw [ids_len] at hcl
  have HC := Lib.hid hcl
  clear hc hs hcl
  go_enter Tryz.func23, Tryz.ntmps23
  go_wp2_with (go_at_call 67; refine (HC.out).mono ?_; rintro e w1 ⟨A1, c1, rfl, hs1, hb1⟩; have HS := Lib.hid hs1; have HB := Lib.hid hb1; clear hs1 hb1)
  go_ret
  exact ⟨A1, c1, rfl, HS.out, HB.out⟩
set_option maxRecDepth 20000 in
theorem tchildren_c (T : Nat) (l : List Cls) (hl : l.length ≤ 64) (id : Int) (hid : (Lit.int .i64 id).wf = true) (w : World) (hT : TreeAt w w.heap.size T l) : Calls Tryz.prog 201 #[.pointer (some ⟨T, 0, none⟩), .int .i64 id] w (ListOk (kids l id) w) := by
  obtain ⟨h, A, c, kf, rfl, _, hc, _, _, hk, hr, _⟩ := hT
  have t2 := cells_at hc 2 _ rfl
  have hlook := hk.look sv_kind Tryz.underlying3 Tryz.underlying132 (zslice w) hid
  obtain ⟨A', c', e, hs⟩ := hr id
  rw [e] at hlook
  have hkl := kids_len l id
  have HC := Lib.hid (clone_c A' c' (kids l id) (by omega) w.heap.size w (Nat.le_refl _) hs)
  clear hc hk hr e hs
  go_enter Tryz.func201, Tryz.ntmps201
  go_wp2_with (go_at_call 67; refine (HC.out).mono ?_; rintro e w1 ⟨A1, c1, rfl, hs1, hb1⟩; have HS := Lib.hid hs1; have HB := Lib.hid hb1; clear hs1 hb1)
  go_ret
  exact ⟨A1, c1, rfl, HS.out, HB.out⟩
end Go.Proofs.YtpchhfhmopmagaaGreat.Tr
