/- The document's IDs. -/
import Derived.Test.YtdoemgccmjddcaaLd9
import Derived.Test.YtdoemgccmjddcaaRel
namespace Go.Proofs.Ytdoemgccmjddcaa.Ld
open Go.Shelf Go.RowKit Go.Maps Wd Li Sr Sw Rel
attribute [local go_sem] opR oneOk relOk
attribute [local irreducible] wpRel

theorem some_iff {xs : List Note} {id : Int} : (books xs id).isSome = true ↔ ∃ (j : Nat) (x : Note), xs[j]? = some x ∧ x.counts = true ∧ x.id = id := by
  have key : ∀ k, k ≤ xs.length → ((books (xs.take k) id).isSome = true ↔ ∃ (j : Nat) (x : Note), j < k ∧ xs[j]? = some x ∧ x.counts = true ∧ x.id = id) := by
    intro k
    induction k with
    | zero => intro _; simp [books]
    | succ k ih =>
      intro hk
      obtain ⟨x, hx⟩ : ∃ x, xs[k]? = some x := ⟨xs[k], List.getElem?_eq_getElem (by omega)⟩
      by_cases h : x.id = id ∧ x.counts = true
      · constructor
        · intro _; exact ⟨k, x, by omega, hx, h.2, h.1⟩
        · intro _
          rw [books_succ hx]; unfold upd
          rw [if_pos h.2]
          simp [h.1]
      · rw [books_other hx h, ih (by omega)]
        constructor
        · rintro ⟨j, y, hj, r⟩; exact ⟨j, y, by omega, r⟩
        · rintro ⟨j, y, hj, hy, hc, hi⟩
          refine ⟨j, y, ?_, hy, hc, hi⟩
          rcases Nat.lt_succ_iff_lt_or_eq.1 hj with h2 | rfl
          · exact h2
          · rw [hx] at hy; cases hy; exact absurd ⟨hi, hc⟩ h
  have := key xs.length (Nat.le_refl _)
  rw [List.take_length] at this
  rw [this]
  constructor
  · rintro ⟨j, x, _, r⟩; exact ⟨j, x, r⟩
  · rintro ⟨j, x, hx, r⟩; exact ⟨j, x, (List.getElem?_eq_some_iff.1 hx).1, hx, r⟩
def above (zs : List Int) (i : Int) : Bool := match zs.getLast? with | none => true | some z => decide (z < i)
def cand (zs : List Int) (x : Note) : Bool := x.counts && above zs x.id
theorem above_snoc (zs : List Int) (b i : Int) : above (zs ++ [b]) i = decide (b < i) := by simp [above]
theorem above_all {zs : List Int} {b : Int} (hr : zs.Pairwise (· < ·)) (h : above zs b = true) : ∀ z ∈ zs, z < b := by
  rcases List.eq_nil_or_concat zs with rfl | ⟨ys, y, rfl⟩
  · intro z hz; cases hz
  · rw [List.concat_eq_append] at *
    rw [above_snoc, decide_eq_true_eq] at h
    intro z hz
    rcases List.mem_append.1 hz with h1 | h1
    · have := (List.pairwise_append.1 hr).2.2 z h1 y (by simp); omega
    · simp at h1; subst h1; exact h
/-- the least of what is above, among the first k -/
def Least (xs : List Note) (k : Nat) (zs : List Int) (yes : Bool) (best : Int) : Prop :=
  (yes = false → ∀ (j : Nat) (x : Note), j < k → xs[j]? = some x → cand zs x = false) ∧
  (yes = true → (∃ (j : Nat) (x : Note), j < k ∧ xs[j]? = some x ∧ cand zs x = true ∧ x.id = best) ∧ ∀ (j : Nat) (x : Note), j < k → xs[j]? = some x → cand zs x = true → best ≤ x.id)
theorem least_zero (xs : List Note) (zs : List Int) : Least xs 0 zs false 0 := ⟨fun _ j x h => by omega, fun h => by cases h⟩
theorem least_no {xs : List Note} {k : Nat} {zs : List Int} {yes : Bool} {best : Int} {x : Note} (h : Least xs k zs yes best) (hx : xs[k]? = some x) (hc : cand zs x = false) : Least xs (k + 1) zs yes best := by
  refine ⟨fun hy j y hj hyj => ?_, fun hy => ⟨?_, fun j y hj hyj hcy => ?_⟩⟩
  · rcases Nat.lt_succ_iff_lt_or_eq.1 hj with h2 | rfl
    · exact h.1 hy j y h2 hyj
    · rw [hx] at hyj; cases hyj; exact hc
  · obtain ⟨⟨j, y, hj, r⟩, _⟩ := h.2 hy
    exact ⟨j, y, by omega, r⟩
  · rcases Nat.lt_succ_iff_lt_or_eq.1 hj with h2 | rfl
    · exact (h.2 hy).2 j y h2 hyj hcy
    · rw [hx] at hyj; cases hyj; rw [hc] at hcy; cases hcy
theorem least_keep {xs : List Note} {k : Nat} {zs : List Int} {best : Int} {x : Note} (h : Least xs k zs true best) (hx : xs[k]? = some x) (hb : best ≤ x.id) : Least xs (k + 1) zs true best := by
  refine ⟨(fun hy => by cases hy), fun hy => ⟨?_, fun j y hj hyj hcy => ?_⟩⟩
  · obtain ⟨⟨j, y, hj, r⟩, _⟩ := h.2 hy
    exact ⟨j, y, by omega, r⟩
  · rcases Nat.lt_succ_iff_lt_or_eq.1 hj with h2 | rfl
    · exact (h.2 hy).2 j y h2 hyj hcy
    · rw [hx] at hyj; cases hyj; exact hb
theorem least_take {xs : List Note} {k : Nat} {zs : List Int} {yes : Bool} {best : Int} {x : Note} (h : Least xs k zs yes best) (hx : xs[k]? = some x) (hc : cand zs x = true) (hb : yes = true → x.id < best) : Least xs (k + 1) zs true x.id := by
  refine ⟨(fun hy => by cases hy), fun _ => ⟨⟨k, x, by omega, hx, hc, rfl⟩, fun j y hj hyj hcy => ?_⟩⟩
  rcases Nat.lt_succ_iff_lt_or_eq.1 hj with h2 | rfl
  · cases yes with
    | true => have := (h.2 rfl).2 j y h2 hyj hcy; have := hb rfl; omega
    | false => have := h.1 rfl j y h2 hyj; rw [hcy] at this; cases this
  · rw [hx] at hyj; cases hyj; omega
/-- what is on the list, and what is not -/
def Part (xs : List Note) (zs : List Int) : Prop := zs.Pairwise (· < ·) ∧ (∀ z ∈ zs, (books xs z).isSome = true) ∧ ∀ id, (books xs id).isSome = true → above zs id = true ∨ id ∈ zs
theorem part_nil (xs : List Note) : Part xs [] := ⟨List.Pairwise.nil, (fun z h => by cases h), fun id _ => .inl rfl⟩
theorem part_snoc {xs : List Note} {zs : List Int} {best : Int} (h : Part xs zs) (hl : Least xs xs.length zs true best) : Part xs (zs ++ [best]) := by
  obtain ⟨⟨j, x, hj, hx, hc, rfl⟩, hmin⟩ := hl.2 rfl
  unfold cand at hc
  rw [Bool.and_eq_true] at hc
  refine ⟨List.pairwise_append.2 ⟨h.1, by simp, fun a ha b hb => ?_⟩, fun z hz => ?_, fun id hid => ?_⟩
  · simp at hb; subst hb; exact above_all h.1 hc.2 a ha
  · rcases List.mem_append.1 hz with h1 | h1
    · exact h.2.1 z h1
    · simp at h1; subst h1; exact some_iff.2 ⟨j, x, hx, hc.1, rfl⟩
  · rcases h.2.2 id hid with h1 | h1
    · obtain ⟨i, y, hy, hyc, rfl⟩ := some_iff.1 hid
      have := hmin i y (List.getElem?_eq_some_iff.1 hy).1 hy (by unfold cand; rw [hyc, h1]; rfl)
      by_cases e : y.id = x.id
      · exact .inr (by simp [e])
      · exact .inl (by rw [above_snoc, decide_eq_true_eq]; omega)
    · exact .inr (by simp [h1])
theorem part_done {xs : List Note} {zs : List Int} {best : Int} (h : Part xs zs) (hl : Least xs xs.length zs false best) : Ids (books xs) zs := by
  refine ⟨h.1, fun id => ⟨h.2.1 id, fun hid => ?_⟩⟩
  rcases h.2.2 id hid with h1 | h1
  · obtain ⟨i, y, hy, hyc, rfl⟩ := some_iff.1 hid
    have := hl.1 rfl i y (List.getElem?_eq_some_iff.1 hy).1 hy
    unfold cand at this
    rw [hyc, h1] at this; cases this
  · exact h1
def rem (xs : List Note) (zs : List Int) : Nat := (xs.filter (cand zs)).length
theorem filter_le {α : Type} {p q : α → Bool} (h : ∀ x, q x = true → p x = true) : ∀ l : List α, (l.filter q).length ≤ (l.filter p).length
  | [] => Nat.le_refl _
  | a :: l => by
    have ih := filter_le h l
    rw [List.filter_cons, List.filter_cons]
    by_cases hq : q a = true
    · rw [if_pos hq, if_pos (h a hq)]; simpa using ih
    · rw [if_neg hq]; split <;> simp <;> omega
theorem filter_lt {α : Type} {p q : α → Bool} (h : ∀ x, q x = true → p x = true) {y : α} : ∀ {l : List α}, y ∈ l → p y = true → q y = false → (l.filter q).length < (l.filter p).length
  | a :: l, hm, hp, hn => by
    have hle := filter_le h l
    rw [List.filter_cons, List.filter_cons]
    rcases List.mem_cons.1 hm with rfl | hm
    · rw [if_pos hp, if_neg (by rw [hn]; decide)]; simp; omega
    · have ih := filter_lt h hm hp hn
      by_cases hq : q a = true
      · rw [if_pos hq, if_pos (h a hq)]; simpa using ih
      · rw [if_neg hq]; split <;> simp <;> omega
theorem rem_lt {xs : List Note} {zs : List Int} {best : Int} (h : Part xs zs) (hl : Least xs xs.length zs true best) : rem xs (zs ++ [best]) < rem xs zs := by
  obtain ⟨⟨j, x, hj, hx, hc, rfl⟩, hmin⟩ := hl.2 rfl
  refine filter_lt (fun y hy => ?_) (List.mem_of_getElem? hx) hc (by unfold cand; rw [above_snoc]; simp)
  unfold cand at hy hc ⊢
  rw [Bool.and_eq_true] at hy hc ⊢
  refine ⟨hy.1, ?_⟩
  have h1 := hy.2
  rw [above_snoc, decide_eq_true_eq] at h1
  rcases List.eq_nil_or_concat zs with rfl | ⟨ys, z, rfl⟩
  · rfl
  · rw [List.concat_eq_append] at *
    have h2 := hc.2
    rw [above_snoc, decide_eq_true_eq] at h2 ⊢
    omega
theorem ids_eq {f : Int → Option Book} {zs ys : List Int} (h : Ids f zs) (k : Ids f ys) : zs = ys := by
  refine List.Perm.eq_of_pairwise (le := (· < ·)) (fun a b _ _ h1 h2 => by omega) h.1 k.1 ?_
  have n1 : zs.Nodup := h.1.imp (fun h => by omega)
  have n2 : ys.Nodup := k.1.imp (fun h => by omega)
  exact (List.perm_ext_iff_of_nodup n1 n2).2 (fun x => (h.2 x).trans (k.2 x).symm)
theorem nodup_le : ∀ {zs l : List Int}, zs.Nodup → zs ⊆ l → zs.length ≤ l.length
  | [], l, _, _ => Nat.zero_le _
  | a :: t, l, hn, hs => by
    have ha : a ∈ l := hs (by simp)
    have hn2 := List.nodup_cons.1 hn
    have ht : t ⊆ l.erase a := fun z hz => (List.mem_erase_of_ne (fun e => hn2.1 (by rw [← e]; exact hz))).2 (hs (by simp [hz]))
    have := nodup_le hn2.2 ht
    rw [List.length_erase_of_mem ha] at this
    have : 0 < l.length := List.length_pos_of_mem ha
    simp; omega
theorem part_len {xs : List Note} {zs : List Int} (h : Part xs zs) : zs.length ≤ xs.length := by
  have hn : zs.Nodup := h.1.imp (fun h => by omega)
  have hs : zs ⊆ xs.map (fun x => x.id) := fun z hz => by
    obtain ⟨j, x, hx, _, rfl⟩ := some_iff.1 (h.2.1 z hz)
    exact List.mem_map.2 ⟨x, List.mem_of_getElem? hx, rfl⟩
  have := nodup_le hn hs
  simpa using this

theorem owns_bel {u u2 : World} {base B : Nat} {e : TypeId} {z : Nat} {v : Value} {k : Nat} {xs : List Value} (hb : Below B u u2) (hB : u.heap.size ≤ B) (h : u.ownsRow base e z v k xs) : u2.ownsRow base e z v k xs := by
  refine ⟨h.1, ?_⟩
  rcases h.2 with h0 | ⟨g, cap, cur, e1, e2, hg, r⟩
  · exact .inl h0
  · exact .inr ⟨g, cap, cur, e1, e2, (hb.block g (Nat.lt_of_lt_of_le (lt_of_get hg) hB)).trans hg, r⟩
theorem int_inf : (Try.prog.info? 3).map (fun i => (i.zero, i.size, i.bytes)) = some (some (.int .i64 0), 1, 8) := by kernel_rfl
set_option maxRecDepth 20000 in
set_option maxHeartbeats 8000000 in
theorem refids_c (A : Option Addr) (n c : Nat) (xs : List Note) (hlen : xs.length ≤ 1048576) (w : World) (hI : Lies 3 Note.cells w.heap.size w (.slice A n c) xs) :
    Calls Try.prog 59 #[.slice A n c] w (IdsOk (books xs) w) := by
  obtain ⟨i0, hi, hz0, hz1, hz2⟩ := info_parts int_inf
  obtain ⟨rfl, hcs⟩ := hI.parts
  have HCS := Lib.hid hcs
  clear hcs hI
  go_enter Try.func59, Try.ntmps59
  go_wp2_with fail
  go_loopg [3] (xs.length + 1) (fun kx s3 w1 => ∃ (zs : List Int) (B : Option Addr) (m d : Nat), s3 = .slice B m d ∧ rem xs zs + 1 ≤ kx ∧ Hid (m = zs.length) ∧ Hid (Part xs zs) ∧ Hid (w1.ownsRow w.heap.size 3 1 (.slice B m d) m (St.I zs)) ∧ Hid (Below w.heap.size w w1))
  case atStart => exact ⟨[], none, 0, 0, rfl, by have := List.length_filter_le (cand []) xs; unfold rem; omega, Lib.hid rfl, Lib.hid (part_nil xs), Lib.hid (World.ownsRow_nil ..), Lib.hid (Below.refl _ w)⟩
  case round =>
    obtain ⟨zs, B, m, d, rfl, hkx0, HMZ, HP, HO, HW0⟩ := hrel
    obtain ⟨w1, hw1⟩ : ∃ w1, w1 = wr := ⟨_, rfl⟩
    subst hw1
    have hzl : m ≤ 1048576 := by have h1 := part_len HP.out; have h2 := HMZ.out; omega
    have hws : w.heap.size ≤ w1.heap.size := HW0.out.size
    go_upto_block 2 with fail
    go_cut [4, 5] (fun s4 s5 wx => ∃ (yes : Bool) (best : Int), s4 = .int .i64 best ∧ s5 = .bool yes ∧ Hid (Least xs xs.length zs yes best) ∧ Hid (Below w1.heap.size w1 wx))
    case first =>
      have hown := HO.out
      rcases List.eq_nil_or_concat zs with rfl | ⟨ys, z, rfl⟩
      · obtain rfl : m = 0 := HMZ.out
        go_wp2_with fail
        go_loopg [4, 5, 6] xs.length (fun kx s4 s5 s6 wr => ∃ (k : Nat) (yes : Bool) (best : Int), s4 = .int .i64 best ∧ s5 = .bool yes ∧ s6 = .int .i64 k ∧ k ≤ xs.length ∧ xs.length - k ≤ kx ∧ Hid (Least xs k [] yes best) ∧ Hid (Below w1.heap.size w1 wr))
        case atStart => exact ⟨0, false, 0, rfl, rfl, rfl, by omega, by omega, Lib.hid (least_zero xs _), Lib.hid (Below.refl _ w1)⟩
        case round =>
          obtain ⟨k, yes, best, rfl, rfl, rfl, hk, hkx, HM, HW⟩ := hrel
          by_cases hlt : k < xs.length
          · have hltz : (k : Int) < (xs.length : Int) := by omega
            obtain ⟨x, hx⟩ : ∃ x, xs[k]? = some x := ⟨xs[k], List.getElem?_eq_getElem hlt⟩
            obtain ⟨b, off, rfl, hb, hc⟩ := HCS.out (by omega)
            have hww : Below w.heap.size w wr := HW0.out.trans (HW.out.mono hws)
            have hcx : ∀ (i : Nat) (v : Value), x.cells[i]? = some v → wr.cell? ⟨b, off + k * 3 + i, none⟩ = some v := fun i v hv => (hww.cell (p := ⟨b, off + k * 3 + i, none⟩) hb).trans (hc k x hx i v hv)
            have c0 : wr.cell? ⟨b, off + k * 3, none⟩ = some (.int .i64 x.kind) := hcx 0 _ rfl
            have c1 := hcx 1 _ rfl; have c2 := hcx 2 _ rfl
            have hbw : b < wr.heap.size := Nat.lt_of_lt_of_le hb hww.size
            have hcn := counts_c x
            have HX := Lib.hid hx
            clear hx hc hcx hb hww
            cases hcc : x.counts with
            | false =>
              rw [hcc] at hcn
              unfold Note.agg at hcn
              have HCN := Lib.hid hcn
              have hno := Lib.hid (least_no HM.out HX.out (by unfold cand; rw [hcc]; rfl))
              clear hcn hcc
              cases yes <;> skip
              all_goals
                go_wp2_with fail
                refine wp_region_mix wr.heap.size (fun i => if i = 4 then some (fun v => v = (.bool false)) else none) (by kernel_rfl) (by kernel_rfl) ?_
                repeat (refine wpRel_step (fun K hK => ?_); first | (refine opR_plain (by rfl) (by rfl) (by rfl) ?_; go_big_quiet_op; refine hK _ ?_; clear hK K) | (refine opR_skip (by rfl) ?_; refine hK _ ?_; clear hK K; simp only [Act.put, List.setIfInBounds_toArray, List.set_cons_succ, List.set_cons_zero]))
                refine wpRel_step (fun K hK => ?_)
                refine opR_rel (by rfl) (by rfl) (fun w hw => ?_) (fun v hv => ?_)
                · obtain ⟨u, rfl⟩ := hw
                  go_simp
                  refine (HCN.out _).mono (fun e w' ⟨he, hb⟩ => ?_)
                  subst he; first | exact ⟨_, rfl, rfl, mix_next (Nat.le_refl _) hb⟩ | exact ⟨rfl, mix_next (Nat.le_refl _) hb⟩
                obtain rfl : v = (.bool false) := hv
                refine hK _ ?_; clear hK K
                simp only [Act.put, List.setIfInBounds_toArray, List.set_cons_succ, List.set_cons_zero]
                repeat (refine wpRel_step (fun K hK => ?_); first | (refine opR_plain (by rfl) (by rfl) (by rfl) ?_; go_big_quiet_op; refine hK _ ?_; clear hK K) | (refine opR_skip (by rfl) ?_; refine hK _ ?_; clear hK K; simp only [Act.put, List.setIfInBounds_toArray, List.set_cons_succ, List.set_cons_zero]))
                refine wpRel_nil ?_
                intro w2 hb2
                have k1 := (hb2.cell (p := ⟨b, off + k * 3 + 1, none⟩) hbw).trans c1
                go_wp2_with fail
                go_roundg (xs.length - (k + 1))
                case measure => omega
                case rel => exact ⟨k + 1, _, _, rfl, rfl, by go_num, by omega, by omega, Lib.hid (hno.out), Lib.hid (HW.out.trans (hb2.mono HW.out.size))⟩
            | true =>
              rw [hcc] at hcn
              unfold Note.agg at hcn
              have HCN := Lib.hid hcn
              clear hcn
              have hcand : cand [] x = true := by unfold cand; rw [hcc]; rfl
              cases yes with
              | false =>
                have hno := Lib.hid (least_take HM.out HX.out hcand (fun h => by cases h))
                clear hcand hcc
                go_wp2_with fail
                refine wp_region_mix wr.heap.size (fun i => if i = 4 then some (fun v => v = (.bool true)) else none) (by kernel_rfl) (by kernel_rfl) ?_
                repeat (refine wpRel_step (fun K hK => ?_); first | (refine opR_plain (by rfl) (by rfl) (by rfl) ?_; go_big_quiet_op; refine hK _ ?_; clear hK K) | (refine opR_skip (by rfl) ?_; refine hK _ ?_; clear hK K; simp only [Act.put, List.setIfInBounds_toArray, List.set_cons_succ, List.set_cons_zero]))
                refine wpRel_step (fun K hK => ?_)
                refine opR_rel (by rfl) (by rfl) (fun w hw => ?_) (fun v hv => ?_)
                · obtain ⟨u, rfl⟩ := hw
                  go_simp
                  refine (HCN.out _).mono (fun e w' ⟨he, hb⟩ => ?_)
                  subst he; first | exact ⟨_, rfl, rfl, mix_next (Nat.le_refl _) hb⟩ | exact ⟨rfl, mix_next (Nat.le_refl _) hb⟩
                obtain rfl : v = (.bool true) := hv
                refine hK _ ?_; clear hK K
                simp only [Act.put, List.setIfInBounds_toArray, List.set_cons_succ, List.set_cons_zero]
                repeat (refine wpRel_step (fun K hK => ?_); first | (refine opR_plain (by rfl) (by rfl) (by rfl) ?_; go_big_quiet_op; refine hK _ ?_; clear hK K) | (refine opR_skip (by rfl) ?_; refine hK _ ?_; clear hK K; simp only [Act.put, List.setIfInBounds_toArray, List.set_cons_succ, List.set_cons_zero]))
                refine wpRel_nil ?_
                intro w2 hb2
                have k1 := (hb2.cell (p := ⟨b, off + k * 3 + 1, none⟩) hbw).trans c1
                go_wp2_with fail
                go_roundg (xs.length - (k + 1))
                case measure => omega
                case rel => exact ⟨k + 1, _, _, rfl, rfl, by go_num, by omega, by omega, Lib.hid (hno.out), Lib.hid (HW.out.trans (hb2.mono HW.out.size))⟩
              | true =>
                by_cases hlb : x.id < best
                · have e9 : decide (x.id < best) = true := decide_eq_true hlb
                  have hno := Lib.hid (least_take HM.out HX.out hcand (fun _ => hlb))
                  clear hcand hcc hlb
                  go_wp2_with fail
                  refine wp_region_mix wr.heap.size (fun i => if i = 4 then some (fun v => v = (.bool true)) else none) (by kernel_rfl) (by kernel_rfl) ?_
                  repeat (refine wpRel_step (fun K hK => ?_); first | (refine opR_plain (by rfl) (by rfl) (by rfl) ?_; go_big_quiet_op; refine hK _ ?_; clear hK K) | (refine opR_skip (by rfl) ?_; refine hK _ ?_; clear hK K; simp only [Act.put, List.setIfInBounds_toArray, List.set_cons_succ, List.set_cons_zero]))
                  refine wpRel_step (fun K hK => ?_)
                  refine opR_rel (by rfl) (by rfl) (fun w hw => ?_) (fun v hv => ?_)
                  · obtain ⟨u, rfl⟩ := hw
                    go_simp
                    refine (HCN.out _).mono (fun e w' ⟨he, hb⟩ => ?_)
                    subst he; first | exact ⟨_, rfl, rfl, mix_next (Nat.le_refl _) hb⟩ | exact ⟨rfl, mix_next (Nat.le_refl _) hb⟩
                  obtain rfl : v = (.bool true) := hv
                  refine hK _ ?_; clear hK K
                  simp only [Act.put, List.setIfInBounds_toArray, List.set_cons_succ, List.set_cons_zero]
                  repeat (refine wpRel_step (fun K hK => ?_); first | (refine opR_plain (by rfl) (by rfl) (by rfl) ?_; go_big_quiet_op; refine hK _ ?_; clear hK K) | (refine opR_skip (by rfl) ?_; refine hK _ ?_; clear hK K; simp only [Act.put, List.setIfInBounds_toArray, List.set_cons_succ, List.set_cons_zero]))
                  refine wpRel_nil ?_
                  intro w2 hb2
                  have k1 := (hb2.cell (p := ⟨b, off + k * 3 + 1, none⟩) hbw).trans c1
                  go_wp2_with fail
                  go_roundg (xs.length - (k + 1))
                  case measure => omega
                  case rel => exact ⟨k + 1, _, _, rfl, rfl, by go_num, by omega, by omega, Lib.hid (hno.out), Lib.hid (HW.out.trans (hb2.mono HW.out.size))⟩
                · have e9 : decide (x.id < best) = false := decide_eq_false hlb
                  have hno := Lib.hid (least_keep HM.out HX.out (by omega))
                  clear hcand hcc hlb
                  go_wp2_with fail
                  refine wp_region_mix wr.heap.size (fun i => if i = 4 then some (fun v => v = (.bool true)) else none) (by kernel_rfl) (by kernel_rfl) ?_
                  repeat (refine wpRel_step (fun K hK => ?_); first | (refine opR_plain (by rfl) (by rfl) (by rfl) ?_; go_big_quiet_op; refine hK _ ?_; clear hK K) | (refine opR_skip (by rfl) ?_; refine hK _ ?_; clear hK K; simp only [Act.put, List.setIfInBounds_toArray, List.set_cons_succ, List.set_cons_zero]))
                  refine wpRel_step (fun K hK => ?_)
                  refine opR_rel (by rfl) (by rfl) (fun w hw => ?_) (fun v hv => ?_)
                  · obtain ⟨u, rfl⟩ := hw
                    go_simp
                    refine (HCN.out _).mono (fun e w' ⟨he, hb⟩ => ?_)
                    subst he; first | exact ⟨_, rfl, rfl, mix_next (Nat.le_refl _) hb⟩ | exact ⟨rfl, mix_next (Nat.le_refl _) hb⟩
                  obtain rfl : v = (.bool true) := hv
                  refine hK _ ?_; clear hK K
                  simp only [Act.put, List.setIfInBounds_toArray, List.set_cons_succ, List.set_cons_zero]
                  repeat (refine wpRel_step (fun K hK => ?_); first | (refine opR_plain (by rfl) (by rfl) (by rfl) ?_; go_big_quiet_op; refine hK _ ?_; clear hK K) | (refine opR_skip (by rfl) ?_; refine hK _ ?_; clear hK K; simp only [Act.put, List.setIfInBounds_toArray, List.set_cons_succ, List.set_cons_zero]))
                  refine wpRel_nil ?_
                  intro w2 hb2
                  have k1 := (hb2.cell (p := ⟨b, off + k * 3 + 1, none⟩) hbw).trans c1
                  go_wp2_with fail
                  go_roundg (xs.length - (k + 1))
                  case measure => omega
                  case rel => exact ⟨k + 1, _, _, rfl, rfl, by go_num, by omega, by omega, Lib.hid (hno.out), Lib.hid (HW.out.trans (hb2.mono HW.out.size))⟩
          · have hltz : ¬ (k : Int) < (xs.length : Int) := by omega
            obtain rfl : k = xs.length := by omega
            go_wp2_with fail
            go_meet
            case rel => exact ⟨yes, best, rfl, rfl, HM, HW⟩
      · rw [List.concat_eq_append] at *
        have hlen1 : m = ys.length + 1 := by have := HMZ.out; simpa using this
        have q0 : ((m : Int) == 0) = false := by rw [beq_eq_false_iff_ne]; omega
        have q2 : ((m : Int) - 1).toNat = m - 1 := by omega
        have q4 : (m : Int) - 1 < (m : Int) := by omega
        obtain ⟨g, cap, hv, hbg, hglt⟩ := hown.form (by omega)
        obtain ⟨rfl, _, rfl⟩ := Value.slice.inj hv
        have hcz := hown.cells (g := g) rfl (m - 1) (.int .i64 z) (by rw [hlen1]; simp [St.I])
        rw [add_zero_at] at hcz
        have HCZ := Lib.hid hcz
        clear hcz hv hown
        have q1 : (0 : Int) ≤ (m : Int) - 1 := by omega
        clear hlen1
        go_wp2_with fail
        go_loopg [4, 5, 6] xs.length (fun kx s4 s5 s6 wr => ∃ (k : Nat) (yes : Bool) (best : Int), s4 = .int .i64 best ∧ s5 = .bool yes ∧ s6 = .int .i64 k ∧ k ≤ xs.length ∧ xs.length - k ≤ kx ∧ Hid (Least xs k (ys ++ [z]) yes best) ∧ Hid (Below w1.heap.size w1 wr))
        case atStart => exact ⟨0, false, 0, rfl, rfl, rfl, by omega, by omega, Lib.hid (least_zero xs _), Lib.hid (Below.refl _ w1)⟩
        case round =>
          obtain ⟨k, yes, best, rfl, rfl, rfl, hk, hkx, HM, HW⟩ := hrel
          by_cases hlt : k < xs.length
          · have hltz : (k : Int) < (xs.length : Int) := by omega
            obtain ⟨x, hx⟩ : ∃ x, xs[k]? = some x := ⟨xs[k], List.getElem?_eq_getElem hlt⟩
            obtain ⟨b, off, rfl, hb, hc⟩ := HCS.out (by omega)
            have hww : Below w.heap.size w wr := HW0.out.trans (HW.out.mono hws)
            have hcx : ∀ (i : Nat) (v : Value), x.cells[i]? = some v → wr.cell? ⟨b, off + k * 3 + i, none⟩ = some v := fun i v hv => (hww.cell (p := ⟨b, off + k * 3 + i, none⟩) hb).trans (hc k x hx i v hv)
            have c0 : wr.cell? ⟨b, off + k * 3, none⟩ = some (.int .i64 x.kind) := hcx 0 _ rfl
            have c1 := hcx 1 _ rfl; have c2 := hcx 2 _ rfl
            have hbw : b < wr.heap.size := Nat.lt_of_lt_of_le hb hww.size
            have hcn := counts_c x
            have HX := Lib.hid hx
            clear hx hc hcx hb hww
            have cz : wr.cell? ⟨g, m - 1, none⟩ = some (.int .i64 z) := (HW.out.cell (p := ⟨g, m - 1, none⟩) hglt).trans HCZ.out
            have hgw : g < wr.heap.size := Nat.lt_of_lt_of_le hglt HW.out.size
            cases hcc : x.counts with
            | false =>
              rw [hcc] at hcn
              unfold Note.agg at hcn
              have HCN := Lib.hid hcn
              have hno := Lib.hid (least_no HM.out HX.out (by unfold cand; rw [hcc]; rfl))
              clear hcn hcc
              cases yes <;> skip
              all_goals
                go_wp2_with fail
                refine wp_region_mix wr.heap.size (fun i => if i = 4 then some (fun v => v = (.bool false)) else none) (by kernel_rfl) (by kernel_rfl) ?_
                repeat (refine wpRel_step (fun K hK => ?_); first | (refine opR_plain (by rfl) (by rfl) (by rfl) ?_; go_big_quiet_op; refine hK _ ?_; clear hK K) | (refine opR_skip (by rfl) ?_; refine hK _ ?_; clear hK K; simp only [Act.put, List.setIfInBounds_toArray, List.set_cons_succ, List.set_cons_zero]))
                refine wpRel_step (fun K hK => ?_)
                refine opR_rel (by rfl) (by rfl) (fun w hw => ?_) (fun v hv => ?_)
                · obtain ⟨u, rfl⟩ := hw
                  go_simp
                  refine (HCN.out _).mono (fun e w' ⟨he, hb⟩ => ?_)
                  subst he; first | exact ⟨_, rfl, rfl, mix_next (Nat.le_refl _) hb⟩ | exact ⟨rfl, mix_next (Nat.le_refl _) hb⟩
                obtain rfl : v = (.bool false) := hv
                refine hK _ ?_; clear hK K
                simp only [Act.put, List.setIfInBounds_toArray, List.set_cons_succ, List.set_cons_zero]
                repeat (refine wpRel_step (fun K hK => ?_); first | (refine opR_plain (by rfl) (by rfl) (by rfl) ?_; go_big_quiet_op; refine hK _ ?_; clear hK K) | (refine opR_skip (by rfl) ?_; refine hK _ ?_; clear hK K; simp only [Act.put, List.setIfInBounds_toArray, List.set_cons_succ, List.set_cons_zero]))
                refine wpRel_nil ?_
                intro w2 hb2
                have k1 := (hb2.cell (p := ⟨b, off + k * 3 + 1, none⟩) hbw).trans c1
                go_wp2_with fail
                go_roundg (xs.length - (k + 1))
                case measure => omega
                case rel => exact ⟨k + 1, _, _, rfl, rfl, by go_num, by omega, by omega, Lib.hid (hno.out), Lib.hid (HW.out.trans (hb2.mono HW.out.size))⟩
            | true =>
              rw [hcc] at hcn
              unfold Note.agg at hcn
              have HCN := Lib.hid hcn
              clear hcn
              by_cases hab : z < x.id
              · have e8 : decide (z < x.id) = true := decide_eq_true hab
                have hcand : cand (ys ++ [z]) x = true := by unfold cand; rw [hcc, above_snoc, e8]; rfl
                clear hab
                cases yes with
                | false =>
                  have hno := Lib.hid (least_take HM.out HX.out hcand (fun h => by cases h))
                  clear hcand hcc
                  go_wp2_with fail
                  refine wp_region_mix wr.heap.size (fun i => if i = 4 then some (fun v => v = (.bool true)) else none) (by kernel_rfl) (by kernel_rfl) ?_
                  repeat (refine wpRel_step (fun K hK => ?_); first | (refine opR_plain (by rfl) (by rfl) (by rfl) ?_; go_big_quiet_op; refine hK _ ?_; clear hK K) | (refine opR_skip (by rfl) ?_; refine hK _ ?_; clear hK K; simp only [Act.put, List.setIfInBounds_toArray, List.set_cons_succ, List.set_cons_zero]))
                  refine wpRel_step (fun K hK => ?_)
                  refine opR_rel (by rfl) (by rfl) (fun w hw => ?_) (fun v hv => ?_)
                  · obtain ⟨u, rfl⟩ := hw
                    go_simp
                    refine (HCN.out _).mono (fun e w' ⟨he, hb⟩ => ?_)
                    subst he; first | exact ⟨_, rfl, rfl, mix_next (Nat.le_refl _) hb⟩ | exact ⟨rfl, mix_next (Nat.le_refl _) hb⟩
                  obtain rfl : v = (.bool true) := hv
                  refine hK _ ?_; clear hK K
                  simp only [Act.put, List.setIfInBounds_toArray, List.set_cons_succ, List.set_cons_zero]
                  repeat (refine wpRel_step (fun K hK => ?_); first | (refine opR_plain (by rfl) (by rfl) (by rfl) ?_; go_big_quiet_op; refine hK _ ?_; clear hK K) | (refine opR_skip (by rfl) ?_; refine hK _ ?_; clear hK K; simp only [Act.put, List.setIfInBounds_toArray, List.set_cons_succ, List.set_cons_zero]))
                  refine wpRel_nil ?_
                  intro w2 hb2
                  have k1 := (hb2.cell (p := ⟨b, off + k * 3 + 1, none⟩) hbw).trans c1
                  go_wp2_with fail
                  go_roundg (xs.length - (k + 1))
                  case measure => omega
                  case rel => exact ⟨k + 1, _, _, rfl, rfl, by go_num, by omega, by omega, Lib.hid (hno.out), Lib.hid (HW.out.trans (hb2.mono HW.out.size))⟩
                | true =>
                  by_cases hlb : x.id < best
                  · have e9 : decide (x.id < best) = true := decide_eq_true hlb
                    have hno := Lib.hid (least_take HM.out HX.out hcand (fun _ => hlb))
                    clear hcand hcc hlb
                    go_wp2_with fail
                    refine wp_region_mix wr.heap.size (fun i => if i = 4 then some (fun v => v = (.bool true)) else none) (by kernel_rfl) (by kernel_rfl) ?_
                    repeat (refine wpRel_step (fun K hK => ?_); first | (refine opR_plain (by rfl) (by rfl) (by rfl) ?_; go_big_quiet_op; refine hK _ ?_; clear hK K) | (refine opR_skip (by rfl) ?_; refine hK _ ?_; clear hK K; simp only [Act.put, List.setIfInBounds_toArray, List.set_cons_succ, List.set_cons_zero]))
                    refine wpRel_step (fun K hK => ?_)
                    refine opR_rel (by rfl) (by rfl) (fun w hw => ?_) (fun v hv => ?_)
                    · obtain ⟨u, rfl⟩ := hw
                      go_simp
                      refine (HCN.out _).mono (fun e w' ⟨he, hb⟩ => ?_)
                      subst he; first | exact ⟨_, rfl, rfl, mix_next (Nat.le_refl _) hb⟩ | exact ⟨rfl, mix_next (Nat.le_refl _) hb⟩
                    obtain rfl : v = (.bool true) := hv
                    refine hK _ ?_; clear hK K
                    simp only [Act.put, List.setIfInBounds_toArray, List.set_cons_succ, List.set_cons_zero]
                    repeat (refine wpRel_step (fun K hK => ?_); first | (refine opR_plain (by rfl) (by rfl) (by rfl) ?_; go_big_quiet_op; refine hK _ ?_; clear hK K) | (refine opR_skip (by rfl) ?_; refine hK _ ?_; clear hK K; simp only [Act.put, List.setIfInBounds_toArray, List.set_cons_succ, List.set_cons_zero]))
                    refine wpRel_nil ?_
                    intro w2 hb2
                    have k1 := (hb2.cell (p := ⟨b, off + k * 3 + 1, none⟩) hbw).trans c1
                    go_wp2_with fail
                    go_roundg (xs.length - (k + 1))
                    case measure => omega
                    case rel => exact ⟨k + 1, _, _, rfl, rfl, by go_num, by omega, by omega, Lib.hid (hno.out), Lib.hid (HW.out.trans (hb2.mono HW.out.size))⟩
                  · have e9 : decide (x.id < best) = false := decide_eq_false hlb
                    have hno := Lib.hid (least_keep HM.out HX.out (by omega))
                    clear hcand hcc hlb
                    go_wp2_with fail
                    refine wp_region_mix wr.heap.size (fun i => if i = 4 then some (fun v => v = (.bool true)) else none) (by kernel_rfl) (by kernel_rfl) ?_
                    repeat (refine wpRel_step (fun K hK => ?_); first | (refine opR_plain (by rfl) (by rfl) (by rfl) ?_; go_big_quiet_op; refine hK _ ?_; clear hK K) | (refine opR_skip (by rfl) ?_; refine hK _ ?_; clear hK K; simp only [Act.put, List.setIfInBounds_toArray, List.set_cons_succ, List.set_cons_zero]))
                    refine wpRel_step (fun K hK => ?_)
                    refine opR_rel (by rfl) (by rfl) (fun w hw => ?_) (fun v hv => ?_)
                    · obtain ⟨u, rfl⟩ := hw
                      go_simp
                      refine (HCN.out _).mono (fun e w' ⟨he, hb⟩ => ?_)
                      subst he; first | exact ⟨_, rfl, rfl, mix_next (Nat.le_refl _) hb⟩ | exact ⟨rfl, mix_next (Nat.le_refl _) hb⟩
                    obtain rfl : v = (.bool true) := hv
                    refine hK _ ?_; clear hK K
                    simp only [Act.put, List.setIfInBounds_toArray, List.set_cons_succ, List.set_cons_zero]
                    repeat (refine wpRel_step (fun K hK => ?_); first | (refine opR_plain (by rfl) (by rfl) (by rfl) ?_; go_big_quiet_op; refine hK _ ?_; clear hK K) | (refine opR_skip (by rfl) ?_; refine hK _ ?_; clear hK K; simp only [Act.put, List.setIfInBounds_toArray, List.set_cons_succ, List.set_cons_zero]))
                    refine wpRel_nil ?_
                    intro w2 hb2
                    have k1 := (hb2.cell (p := ⟨b, off + k * 3 + 1, none⟩) hbw).trans c1
                    go_wp2_with fail
                    go_roundg (xs.length - (k + 1))
                    case measure => omega
                    case rel => exact ⟨k + 1, _, _, rfl, rfl, by go_num, by omega, by omega, Lib.hid (hno.out), Lib.hid (HW.out.trans (hb2.mono HW.out.size))⟩
              · have e8 : decide (z < x.id) = false := decide_eq_false hab
                have hno := Lib.hid (least_no HM.out HX.out (by unfold cand; rw [hcc, above_snoc, e8]; rfl))
                clear hab hcc
                cases yes <;> skip
                all_goals
                  go_wp2_with fail
                  refine wp_region_mix wr.heap.size (fun i => if i = 4 then some (fun v => v = (.bool true)) else none) (by kernel_rfl) (by kernel_rfl) ?_
                  repeat (refine wpRel_step (fun K hK => ?_); first | (refine opR_plain (by rfl) (by rfl) (by rfl) ?_; go_big_quiet_op; refine hK _ ?_; clear hK K) | (refine opR_skip (by rfl) ?_; refine hK _ ?_; clear hK K; simp only [Act.put, List.setIfInBounds_toArray, List.set_cons_succ, List.set_cons_zero]))
                  refine wpRel_step (fun K hK => ?_)
                  refine opR_rel (by rfl) (by rfl) (fun w hw => ?_) (fun v hv => ?_)
                  · obtain ⟨u, rfl⟩ := hw
                    go_simp
                    refine (HCN.out _).mono (fun e w' ⟨he, hb⟩ => ?_)
                    subst he; first | exact ⟨_, rfl, rfl, mix_next (Nat.le_refl _) hb⟩ | exact ⟨rfl, mix_next (Nat.le_refl _) hb⟩
                  obtain rfl : v = (.bool true) := hv
                  refine hK _ ?_; clear hK K
                  simp only [Act.put, List.setIfInBounds_toArray, List.set_cons_succ, List.set_cons_zero]
                  repeat (refine wpRel_step (fun K hK => ?_); first | (refine opR_plain (by rfl) (by rfl) (by rfl) ?_; go_big_quiet_op; refine hK _ ?_; clear hK K) | (refine opR_skip (by rfl) ?_; refine hK _ ?_; clear hK K; simp only [Act.put, List.setIfInBounds_toArray, List.set_cons_succ, List.set_cons_zero]))
                  refine wpRel_nil ?_
                  intro w2 hb2
                  have k1 := (hb2.cell (p := ⟨b, off + k * 3 + 1, none⟩) hbw).trans c1
                  go_wp2_with fail
                  go_roundg (xs.length - (k + 1))
                  case measure => omega
                  case rel => exact ⟨k + 1, _, _, rfl, rfl, by go_num, by omega, by omega, Lib.hid (hno.out), Lib.hid (HW.out.trans (hb2.mono HW.out.size))⟩
          · have hltz : ¬ (k : Int) < (xs.length : Int) := by omega
            obtain rfl : k = xs.length := by omega
            go_wp2_with fail
            go_meet
            case rel => exact ⟨yes, best, rfl, rfl, HM, HW⟩
    case rest =>
      obtain ⟨yes, best, rfl, rfl, HL, HWX⟩ := hcut
      have HOX : Hid (wc.ownsRow w.heap.size 3 1 (.slice B m d) m (St.I zs)) := Lib.hid (owns_bel HWX.out (Nat.le_refl _) HO.out)
      have HWC : Hid (Below w.heap.size w wc) := Lib.hid (HW0.out.trans (HWX.out.mono hws))
      have hwcs : w.heap.size ≤ wc.heap.size := HWC.out.size
      clear HO HWX HW0
      cases yes with
      | false =>
        have hids := part_done HP.out HL.out
        have HID := Lib.hid hids
        have HMZ2 := HMZ.out
        subst HMZ2
        clear hids
        go_wp2_with fail
        (try simp only [Exit.inBlock, Exit.then])
        go_ret
        exact ⟨zs, B, d, rfl, HID.out, HOX.out, HWC.out⟩
      | true =>
        have hsn := part_snoc HP.out HL.out
        have hrl := rem_lt HP.out HL.out
        have HSN := Lib.hid hsn
        clear hsn
        go_wp2_with ((at_builtin; go_must (refine wpList_push (by rfl) _ _ 27 (by rfl) w.heap.size 3 i0 _ 1 8 Try.underlying27 hi hz0 hz1 hz2 rfl (by decide) (by decide) wc _ rfl (by simp [Value.oneCell']) _ _ _ HOX.out (by rfl) (by first | rfl | go_simp) (by omega) hwcs ?_); intro A5 c5 w5 hown5 hb5))
        go_roundg (rem xs (zs ++ [best]) + 1)
        case measure => omega
        case rel => exact ⟨zs ++ [best], A5, m + 1, c5, rfl, by omega, Lib.hid (by rw [HMZ.out]; simp), HSN, Lib.hid (by simpa [St.I] using hown5), Lib.hid (HWC.out.trans hb5)⟩
end Go.Proofs.Ytdoemgccmjddcaa.Ld
