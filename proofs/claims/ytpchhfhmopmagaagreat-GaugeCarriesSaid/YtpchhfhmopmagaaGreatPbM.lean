/- The reference's Has. The reference's Path. Ways up: one's way holds the ways of all above; two ways meet alike from either side; all ways end at the root. -/
import Derived.Test.YtpchhfhmopmagaaGreatPaM
set_option linter.unusedVariables false
set_option linter.unusedSimpArgs false
/- The reference's Has. -/
namespace Go.Proofs.YtpchhfhmopmagaaGreat.Pa
open Go.RowKit Go.Maps Go.Proofs.YtpchhfhmopmagaaGreat.Wd Go.Proofs.YtpchhfhmopmagaaGreat.Li Go.Proofs.YtpchhfhmopmagaaGreat.Mp Go.Proofs.YtpchhfhmopmagaaGreat.Tp Go.Proofs.YtpchhfhmopmagaaGreat.Tr Go.Proofs.YtpchhfhmopmagaaGreat.Cl Go.Proofs.YtpchhfhmopmagaaGreat.So Go.Proofs.YtpchhfhmopmagaaGreat.Sw

theorem has_snoc {zs : List Int} {v y : Int} {k : Nat} (h : zs[k]? = some y) (hn : v ∉ zs.take k) (hy : (y == v) = false) : v ∉ zs.take (k + 1) := by
  rw [List.take_add_one, h]
  intro hm
  rcases List.mem_append.1 hm with h1 | h1
  · exact hn h1
  · simp at h1; subst h1; simp at hy
set_option maxRecDepth 20000 in
set_option maxHeartbeats 1000000 in
theorem has_c (A : Option Addr) (c B : Nat) (zs : List Int) (v : Int) (hlen : zs.length ≤ 1048576) (w : World) (hs : Sl w B 1 A zs.length (St.I zs)) :
    Calls Tryz.prog 27 #[.slice A zs.length c, .int .i64 v] w fun e w' => e = .returned (.bool (decide (v ∈ zs))) ∧ w = w' := by
  have HS := Lib.hid hs
  clear hs
  go_enter Tryz.func27, Tryz.ntmps27
  go_wp2
  go_loopg [5] zs.length (fun kx s5 wr => ∃ (k : Nat), s5 = .int .i64 k ∧ k ≤ zs.length ∧ zs.length - k ≤ kx ∧ wr = w ∧ Hid (v ∉ zs.take k))
  case atStart => exact ⟨0, rfl, by omega, by omega, rfl, Lib.hid (by simp)⟩
  case round =>
    obtain ⟨k, rfl, hk, hkx, rfl, HN⟩ := hrel
    by_cases hlt : k < zs.length
    · have hltz : (k : Int) < (zs.length : Int) := by omega
      obtain ⟨a, u, rfl, hab, hu, hc⟩ := HS.out.cell1 (k := k) hlt
      unfold St.I at hu
      simp only [List.getElem?_map] at hu
      obtain ⟨y, hy0, rfl⟩ := Option.map_eq_some_iff.1 hu
      have HY := Lib.hid hy0
      clear hu hy0
      cases hq : (y == v) with
      | true =>
        have HV : Hid (decide (v ∈ zs) = true) := Lib.hid (decide_eq_true (by have := eq_of_beq hq; subst this; exact List.mem_of_getElem? HY.out))
        go_wp2
        go_ret
        exact ⟨by rw [HV.out]; rfl, rfl⟩
      | false =>
        have HQ := Lib.hid (has_snoc HY.out HN.out hq)
        go_wp2
        go_roundg (zs.length - (k + 1))
        case measure => omega
        case rel => exact ⟨k + 1, by go_num, by omega, by omega, rfl, HQ⟩
    · have hltz : ¬ (k : Int) < (zs.length : Int) := by omega
      obtain rfl : k = zs.length := by omega
      have HV : Hid (decide (v ∈ zs) = false) := Lib.hid (decide_eq_false (by have := HN.out; rwa [List.take_length] at this))
      go_wp2
      go_ret
      exact ⟨by rw [HV.out]; rfl, rfl⟩
end Go.Proofs.YtpchhfhmopmagaaGreat.Pa

/- The reference's Path. -/
namespace Go.Proofs.YtpchhfhmopmagaaGreat.Pa
open Go.RowKit Go.Maps Go.Proofs.YtpchhfhmopmagaaGreat.Wd Go.Proofs.YtpchhfhmopmagaaGreat.Li Go.Proofs.YtpchhfhmopmagaaGreat.Mp Go.Proofs.YtpchhfhmopmagaaGreat.Tp Go.Proofs.YtpchhfhmopmagaaGreat.Tr Go.Proofs.YtpchhfhmopmagaaGreat.Cl Go.Proofs.YtpchhfhmopmagaaGreat.So Go.Proofs.YtpchhfhmopmagaaGreat.Sw
attribute [local go_sem] run_store_float

theorem wids_none {l : List Cls} {id : Int} (h : at? l id = none) : wids l id = [] := by unfold wids; rw [way_none h]; rfl
theorem wids_some {l : List Cls} (F : Fit l) {id : Int} {c : Cls} (h : at? l id = some c) : wids l id = id :: wids l c.parent := by
  have hc : at? l c.id = some c := by rw [(at_mem h).2]; exact h
  unfold wids; rw [way_some F h hc]; simp [(at_mem h).2]
theorem wids_len (l : List Cls) (id : Int) : (wids l id).length ≤ 65 := by unfold wids; rw [List.length_map]; exact way_len id

def PathOk (zs : List Int) (w : World) (e : Ending) (w' : World) : Prop := ListOk zs w e w' ∧ ∃ v, e = .returned v ∧ Li.News w' 1 v zs.length (St.I zs)
set_option maxRecDepth 20000 in
set_option maxHeartbeats 1000000 in
theorem refpath_c (A : Option Addr) (cap : Nat) (l : List Cls) (F0 : Fit l) : ∀ (n : Nat) (id : Int), (wids l id).length ≤ n → ∀ (w : World), Holds w.heap.size w (.slice A l.length cap) l →
    Calls Tryz.prog 70 #[.slice A l.length cap, .int .i64 id] w (PathOk (wids l id) w) := by
  intro n
  obtain ⟨i0, hi, hz0, hz1, hz2⟩ := info_parts info3
  induction n with
  | zero =>
    intro id hn w hI
    have hfind := reffind_c A l.length cap w.heap.size l id (by have := F0.le; omega) w hI
    rcases find_at (zs := l) (id := id) with ⟨hf, ha⟩ | ⟨i, c, hf, hc, ha⟩
    · have hfz : decide (findC l id < 0) = true := decide_eq_true hf
      have HW := Lib.hid (wids_none ha)
      have HF := Lib.hid hfind
      clear hfind hf ha hn hI
      unfold PathOk ListOk
      go_enter Tryz.func70, Tryz.ntmps70
      go_wp2_with (go_at_call 72; (with_reducible refine (HF.out).mono ?_); rintro e w2 ⟨rfl, rfl⟩)
      go_ret
      rw [HW.out]
      exact ⟨⟨none, 0, rfl, Sl.nil, Below.refl _ _⟩, _, rfl, .inr ⟨rfl, rfl, rfl⟩⟩
    · rw [wids_some F0 ha] at hn; simp at hn
  | succ n ih =>
    intro id hn w hI
    have hfind := reffind_c A l.length cap w.heap.size l id (by have := F0.le; omega) w hI
    rcases find_at (zs := l) (id := id) with ⟨hf, ha⟩ | ⟨i, c, hf, hc, ha⟩
    · have hfz : decide (findC l id < 0) = true := decide_eq_true hf
      have HW := Lib.hid (wids_none ha)
      have HF := Lib.hid hfind
      clear hfind hf ha hn hI ih
      unfold PathOk ListOk
      go_enter Tryz.func70, Tryz.ntmps70
      go_wp2_with (go_at_call 72; (with_reducible refine (HF.out).mono ?_); rintro e w2 ⟨rfl, rfl⟩)
      go_ret
      rw [HW.out]
      exact ⟨⟨none, 0, rfl, Sl.nil, Below.refl _ _⟩, _, rfl, .inr ⟨rfl, rfl, rfl⟩⟩
    · have hil := (List.getElem?_eq_some_iff.1 hc).1
      have hF5 := F0.le
      obtain ⟨_, hcs⟩ := holds_parts hI
      obtain ⟨b, off, rfl, hb, hcc⟩ := hcs (by omega)
      have c1' := hcc i c hc 1 _ rfl
      have hB1 : Below w.heap.size w (w.alloc (.cells #[.int .i64 id] 3)) := (Below.refl _ w).alloc (Nat.le_refl _) _
      have c1 := (hB1.cell (p := ⟨b, off + i * 11 + 1, none⟩) hb).trans c1'
      have HR1 : Hid ((w.alloc (.cells #[.int .i64 id] 3)).ownsRow w.heap.size 3 1 (.slice (some ⟨w.heap.size, 0, none⟩) 1 1) 1 [.int .i64 id]) := Lib.hid ⟨rfl, .inr ⟨w.heap.size, 1, #[.int .i64 id], rfl, Nat.le_refl _, World.alloc_heap_new w _, Nat.le_refl _, by decide, rfl, rfl⟩⟩
      have hw0 := wids_some F0 ha
      have hl2 := wids_len l c.parent
      have hp := ih c.parent (by rw [hw0] at hn; simp at hn; omega) (w.alloc (.cells #[.int .i64 id] 3)) (holds_next hI hB1)
      have HP := Lib.hid hp
      have HW := Lib.hid hw0
      have HF := Lib.hid hfind
      rw [hf] at HF
      have HB1 := Lib.hid hB1
      have hilz : (i : Int) < (l.length : Int) := by omega
      generalize hL : wids l c.parent = ps at *
      clear hfind hf ha hn hI ih hp hw0 hcs hcc hc hL hB1
      unfold PathOk ListOk at *
      rw [HW.out]
      go_enter Tryz.func70, Tryz.ntmps70
      go_wp2_with (first
        | (go_at_call 72; (with_reducible refine (HF.out).mono ?_); rintro e w9 ⟨rfl, hw9⟩; subst w9)
        | (go_at_call 70; (with_reducible refine (HP.out).mono ?_); rintro e w2 ⟨⟨A1, c1, rfl, hs1, hb2⟩, v2, hv2, hN2⟩; injection hv2 with hv2; subst hv2; have HN2 := Lib.hid hN2; have HB2 := Lib.hid hb2
           have HR2 := Lib.hid (own_same (w' := w2) HR1.out (fun q hq => HB2.out.block q (HR1.out.lt q hq).2)); clear hs1 hb2 hN2)
        | (at_builtin; go_must (refine Li.wpList_cats (by rfl) _ _ 38 (by rfl) w.heap.size 3 i0 _ 1 8 Tryz.underlying38 hi hz0 hz1 hz2 rfl (by decide) (by decide) w2 _ 1 _ HR2.out (by rfl) _ ps.length (St.I ps) (by rfl) HN2.out (by intro u hu; unfold St.I at hu; obtain ⟨y, _, rfl⟩ := List.mem_map.1 hu; rfl) (by decide) (by omega) (by have h1 := HB2.out.size; have h2 := HB1.out.size; omega) (ps.length + 1) (St.I (id :: ps)) (by omega) rfl ?_); intro A3 c3 w3 hown3 hb3; have HO3 := Lib.hid hown3; have HB3 := Lib.hid hb3; clear hown3 hb3))
      go_ret
      have hsl := Sl.of_own HO3.out
      obtain ⟨a, ha, _, hca⟩ := hsl.2 (by omega)
      exact ⟨⟨A3, c3, rfl, hsl, HB1.out.trans ((HB2.out.mono HB1.out.size).trans HB3.out)⟩, _, rfl, .inl ⟨a, c3, by rw [ha]; rfl, hsl.1, hca⟩⟩
end Go.Proofs.YtpchhfhmopmagaaGreat.Pa

/- Ways up: one's way holds the ways of all above; two ways meet alike from either side; all ways end at the root. -/
namespace Go.Proofs.YtpchhfhmopmagaaGreat.Pa
open Go.Proofs.YtpchhfhmopmagaaGreat.Tp Go.Proofs.YtpchhfhmopmagaaGreat.Tr Go.Proofs.YtpchhfhmopmagaaGreat.Cl Go.Proofs.YtpchhfhmopmagaaGreat.So
variable {l : List Cls}

theorem wids_tail (F : Fit l) : ∀ (p : List Int) (a i : Int) (t : List Int), wids l a = p ++ i :: t → wids l i = i :: t
  | [], a, i, t, h => by
    cases ha : at? l a with
    | none => rw [wids_none ha] at h; cases h
    | some c =>
      have h2 := h
      rw [wids_some F ha] at h2
      injection h2 with e _
      subst e; exact h
  | x :: p, a, i, t, h => by
    cases ha : at? l a with
    | none => rw [wids_none ha] at h; cases h
    | some c =>
      rw [wids_some F ha] at h
      injection h with _ e
      exact wids_tail F p c.parent i t e
/-- the class whose parent the k-th lender is -/
def was (l : List Cls) (a : Int) : Nat → Int
  | 0 => a
  | k + 1 => ((lendS l a)[k]?).getD 0
end Go.Proofs.YtpchhfhmopmagaaGreat.Pa
