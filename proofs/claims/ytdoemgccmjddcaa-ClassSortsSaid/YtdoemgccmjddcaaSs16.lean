/- ref.SameAll of a list with itself; the law ClassSorts. -/
import Derived.Test.YtdoemgccmjddcaaSs15
namespace Go.Proofs.Ytdoemgccmjddcaa.So
open Go.RowKit Go.Shelf Cl Wd Rel
attribute [local go_sem] opR oneOk relOk
attribute [local irreducible] wpRel

theorem same_self (c : Cls) : sameS c c = true := by simp [sameS, St.same, restEq]
theorem Holds.up {n₀ n₁ : Nat} {A : World} (hn : n₀ ≤ n₁) {sv : Value} {zs : List Cls} : Holds n₀ A sv zs → Holds n₁ A sv zs
  | .inl e => .inl e
  | .inr ⟨b, off, cap, e, hb, hc⟩ => .inr ⟨b, off, cap, e, Nat.lt_of_lt_of_le hb hn, hc⟩
theorem mem_ins1 {o : List Cls} {x z : Cls} (h : z ∈ ins1 o x) : z ∈ o ∨ z = x := by
  unfold ins1 at h
  simp only [List.mem_append, List.mem_cons] at h
  rcases h with h | h | h
  · exact .inl ((List.takeWhile_sublist _).subset h)
  · exact .inr h
  · exact .inl ((List.dropWhile_sublist _).subset h)
theorem mem_foldl {l : List Cls} : ∀ {o : List Cls} {z : Cls}, z ∈ l.foldl ins1 o → z ∈ o ∨ z ∈ l := by
  induction l with
  | nil => intro o z h; exact .inl h
  | cons x l ih =>
    intro o z h
    rcases ih (o := ins1 o x) h with h | h
    · rcases mem_ins1 h with h | h
      · exact .inl h
      · exact .inr (by simp [h])
    · exact .inr (by simp [h])
theorem mem_sortC {zs : List Cls} {z : Cls} (h : z ∈ sortC zs) : z ∈ zs := by
  rcases mem_foldl h with h | h
  · cases h
  · exact h
/-- what was held lies there behind a call -/
theorem Holds.next {A B : World} (h : Below A.heap.size A B) {sv : Value} {zs : List Cls} (k : Holds A.heap.size A sv zs) : Holds B.heap.size B sv zs := (k.below h).up h.size
theorem Holds.form {n₀ : Nat} {A : World} {sv : Value} {zs : List Cls} : Holds n₀ A sv zs → ∃ a c, sv = .slice a zs.length c
  | .inl ⟨e, h⟩ => ⟨none, 0, by rw [e, h]; rfl⟩
  | .inr ⟨_, _, _, e, _, _⟩ => ⟨_, _, e⟩
theorem holds_own {w : World} {base : Nat} {v : Value} {zs : List Cls} {e : TypeId} (h : w.ownsRow base e 11 v zs.length (zs.flatMap Cls.cells)) : Holds w.heap.size w v zs := by
  obtain ⟨A, c, rfl⟩ := own_slice (by decide) h
  by_cases hz : zs = []
  · subst hz
    rcases h.2 with ⟨e, _⟩ | ⟨g, cap, cur, e, hb, hg, _⟩
    · exact .inl ⟨e, rfl⟩
    · obtain ⟨rfl, _, _⟩ := Value.slice.inj e
      refine .inr ⟨g, 0, c, rfl, ?_, fun j x hx => by simp at hx⟩
      rcases Nat.lt_or_ge g w.heap.size with hlt | hge
      · exact hlt
      · rw [Array.getElem?_eq_none hge] at hg; cases hg
  · have hn : 0 < zs.length := List.length_pos_iff.2 hz
    obtain ⟨g, rfl, hg, hc⟩ := owns_ids h rfl hn
    exact .inr ⟨g, 0, c, rfl, hg, fun j x hx i v hv => by rw [Nat.zero_add]; exact hc j x hx i v hv⟩

set_option maxRecDepth 20000 in
set_option maxHeartbeats 4000000 in
theorem sameall_c (A : Option Addr) (len cap : Nat) (A2 : Option Addr) (len2 cap2 : Nat) (zs : List Cls) (hz : ∀ z ∈ zs, z.share < 18446744073709551616) (hlen : zs.length ≤ 1048576) (w : World) (hI : Holds w.heap.size w (.slice A len cap) zs) (hI2 : Holds w.heap.size w (.slice A2 len2 cap2) zs) :
    Calls Try.prog 47 #[.slice A len cap, .slice A2 len2 cap2] w fun e w' => e = .returned (.bool true) ∧ Below w.heap.size w w' := by
  obtain ⟨rfl, hcs⟩ : len = zs.length ∧ (0 < zs.length → ∃ b off, A = some ⟨b, off, none⟩ ∧ b < w.heap.size ∧ ∀ (j : Nat) (x : Cls), zs[j]? = some x → ∀ (i : Nat) (v : Value), x.cells[i]? = some v → w.cell? ⟨b, off + j * 11 + i, none⟩ = some v) := by
    rcases hI with ⟨e, rfl⟩ | ⟨b, off, c, e, hb, hc⟩
    · cases e; exact ⟨rfl, fun h => absurd h (by simp)⟩
    · obtain ⟨rfl, rfl, rfl⟩ := Value.slice.inj e
      exact ⟨rfl, fun _ => ⟨b, off, rfl, hb, hc⟩⟩
  obtain ⟨rfl, hcs2⟩ : len2 = zs.length ∧ (0 < zs.length → ∃ b off, A2 = some ⟨b, off, none⟩ ∧ b < w.heap.size ∧ ∀ (j : Nat) (x : Cls), zs[j]? = some x → ∀ (i : Nat) (v : Value), x.cells[i]? = some v → w.cell? ⟨b, off + j * 11 + i, none⟩ = some v) := by
    rcases hI2 with ⟨e, rfl⟩ | ⟨b, off, c, e, hb, hc⟩
    · cases e; exact ⟨rfl, fun h => absurd h (by simp)⟩
    · obtain ⟨rfl, rfl, rfl⟩ := Value.slice.inj e
      exact ⟨rfl, fun _ => ⟨b, off, rfl, hb, hc⟩⟩
  have HCS := Lib.hid hcs
  have HCS2 := Lib.hid hcs2
  clear hcs hI hcs2 hI2
  go_enter Try.func47, Try.ntmps47
  go_wp2
  go_loopg [5] zs.length (fun kx s5 wr => ∃ k : Nat, s5 = .int .i64 k ∧ k ≤ zs.length ∧ zs.length - k ≤ kx ∧ Hid (Below w.heap.size w wr))
  case atStart => exact ⟨0, rfl, by omega, by omega, Lib.hid (Below.refl _ w)⟩
  case round =>
    obtain ⟨k, rfl, hk, hkx, HW⟩ := hrel
    by_cases hlt : k < zs.length
    · have hltz : (k : Int) < (zs.length : Int) := by omega
      obtain ⟨x, hx⟩ : ∃ x, zs[k]? = some x := ⟨zs[k], List.getElem?_eq_getElem hlt⟩
      have hxs := hz x (List.mem_of_getElem? hx)
      have hcall := refsame_c x x hxs hxs
      rw [same_self] at hcall
      obtain ⟨b, off, rfl, hb, hc⟩ := HCS.out (by omega)
      obtain ⟨b2, off2, rfl, hb2, hc2⟩ := HCS2.out (by omega)
      have hcx : ∀ (i : Nat) (v : Value), x.cells[i]? = some v → wr.cell? ⟨b, off + k * 11 + i, none⟩ = some v := fun i v hv => (HW.out.cell (p := ⟨b, off + k * 11 + i, none⟩) hb).trans (hc k x hx i v hv)
      have hcx2 : ∀ (i : Nat) (v : Value), x.cells[i]? = some v → wr.cell? ⟨b2, off2 + k * 11 + i, none⟩ = some v := fun i v hv => (HW.out.cell (p := ⟨b2, off2 + k * 11 + i, none⟩) hb2).trans (hc2 k x hx i v hv)
      have c0 : wr.cell? ⟨b, off + k * 11, none⟩ = some (.int .i64 x.id) := hcx 0 _ rfl
      have c1 := hcx 1 _ rfl; have c2 := hcx 2 _ rfl; have c3 := hcx 3 _ rfl; have c4 := hcx 4 _ rfl; have c5 := hcx 5 _ rfl
      have c6 := hcx 6 _ rfl; have c7 := hcx 7 _ rfl; have c8 := hcx 8 _ rfl; have c9 := hcx 9 _ rfl; have c10 := hcx 10 _ rfl
      have d0 : wr.cell? ⟨b2, off2 + k * 11, none⟩ = some (.int .i64 x.id) := hcx2 0 _ rfl
      have d1 := hcx2 1 _ rfl; have d2 := hcx2 2 _ rfl; have d3 := hcx2 3 _ rfl; have d4 := hcx2 4 _ rfl; have d5 := hcx2 5 _ rfl
      have d6 := hcx2 6 _ rfl; have d7 := hcx2 7 _ rfl; have d8 := hcx2 8 _ rfl; have d9 := hcx2 9 _ rfl; have d10 := hcx2 10 _ rfl
      have l1 : b < wr.heap.size := Nat.lt_of_lt_of_le hb HW.out.size
      have l2 : b2 < wr.heap.size := Nat.lt_of_lt_of_le hb2 HW.out.size
      unfold Cls.agg at hcall
      have HC := Lib.hid hcall
      clear hx hc hcx hb hcall hc2 hcx2 hb2 hxs hz
      go_wp2_with fail
      refine wp_region_mix wr.heap.size (fun i => if i = 8 then some (fun v => v = (.bool true)) else none) (by kernel_rfl) (by kernel_rfl) ?_
      repeat (refine wpRel_step (fun K hK => ?_); refine opR_plain (by rfl) (by rfl) (by rfl) ?_; go_big_quiet_op; refine hK _ ?_; clear hK K)
      refine wpRel_step (fun K hK => ?_)
      refine opR_rel (by rfl) (by rfl) (fun w hw => ?_) (fun v hv => ?_)
      · obtain ⟨u, rfl⟩ := hw
        go_simp
        refine (HC.out _).mono (fun e w' ⟨he, hb⟩ => ?_)
        subst he; first | exact ⟨_, rfl, rfl, mix_next (Nat.le_refl _) hb⟩ | exact ⟨rfl, mix_next (Nat.le_refl _) hb⟩
      obtain rfl : v = (.bool true) := hv
      refine hK _ ?_; clear hK K
      simp only [Act.put, List.setIfInBounds_toArray, List.set_cons_succ, List.set_cons_zero]
      repeat (refine wpRel_step (fun K hK => ?_); refine opR_plain (by rfl) (by rfl) (by rfl) ?_; go_big_quiet_op; refine hK _ ?_; clear hK K)
      refine wpRel_nil ?_
      intro w2 hb2
      go_wp2_with fail
      go_roundg (zs.length - (k + 1))
      case measure => omega
      case rel => exact ⟨k + 1, by go_num, by omega, by omega, Lib.hid (HW.out.trans (hb2.mono HW.out.size))⟩
    · have hltz : ¬ (k : Int) < (zs.length : Int) := by omega
      go_wp2
      go_ret
      exact ⟨rfl, HW.out⟩
set_option maxRecDepth 20000 in
set_option maxHeartbeats 4000000 in
theorem sorts_t (A : Option Addr) (len cap : Nat) (id : Int) (zs : List Cls) (hz : ∀ z ∈ zs, z.share < 18446744073709551616) (hlen : zs.length ≤ 1048576) (w : World) (hI : Holds w.heap.size w (.slice A len cap) zs) :
    Calls Try.prog 7 #[.slice A len cap, .int .i64 id] w fun e w' => e = .returned (.bool true) ∧ Below w.heap.size w w' := by
  obtain ⟨i0, hi, hz0, hz1, hz2⟩ := info_parts class_info
  obtain ⟨_, _, e⟩ := hI.form
  obtain ⟨rfl, rfl, rfl⟩ := Value.slice.inj e
  clear e
  have hN : News w 11 (.slice A zs.length cap) zs.length (zs.flatMap Cls.cells) := by
    rcases hI with ⟨e, rfl⟩ | ⟨b, off, c, e, hb, hc⟩
    · exact .inr ⟨e, rfl, rfl⟩
    · obtain ⟨rfl, _, _⟩ := Value.slice.inj e
      refine .inl ⟨_, _, rfl, flat_len zs, fun j u hu => ?_⟩
      have hj : j < zs.length * 11 := by rw [← flat_len]; exact (List.getElem?_eq_some_iff.1 hu).1
      rw [flat_get zs j hj] at hu
      have hjp : j / 11 < zs.length := by omega
      have e3 : zs.toArray[j / 11]! = zs[j / 11] := by
        rw [getElem!_pos zs.toArray (j / 11) (by simpa using hjp)]; simp
      rw [e3] at hu
      have hl : j % 11 < (zs[j / 11].cells).length := by rw [cells_len]; omega
      rw [getElem!_pos (zs[j / 11].cells) (j % 11) hl] at hu
      have := hc (j / 11) _ (List.getElem?_eq_getElem hjp) (j % 11) u (by rw [List.getElem?_eq_getElem hl]; exact hu)
      rw [show off + j / 11 * 11 + j % 11 = off + j by omega] at this
      rw [Addr.add_lit]; exact this
  have hfl := flat_one zs
  have HI := Lib.hid hI
  have hn := Lib.hid hN
  have HCL := Lib.hid lives_any
  have hn63 : zs.length < 4194304 := by omega
  have hz' : ∀ z ∈ sortC zs, z.share < 18446744073709551616 := fun z h => hz z (mem_sortC h)
  have HZ := Lib.hid hz
  have HZ' := Lib.hid hz'
  have hsl : (sortC zs).length = zs.length := sortC_len zs
  clear hI hN hz hz'
  go_enter Try.func7, Try.ntmps7
  by_cases hbig : 70 < zs.length
  · have hbigz : (70 : Int) < (zs.length : Int) := by omega
    go_wp2_with (go_at_call 46; refine (HCL.out _).mono ?_; rintro e w1 ⟨rfl, hb1⟩)
    go_ret
    exact ⟨rfl, hb1⟩
  · have hbigz : ¬ (70 : Int) < (zs.length : Int) := by omega
    go_upto_region 4 with ((at_builtin; go_must (refine wpList_cats (by rfl) _ _ 22 (by rfl) w.heap.size 64 i0 _ 11 80 Try.underlying22 hi hz0 hz1 hz2 rfl (by decide) (by decide) _ _ _ [] (World.ownsRow_made w #[] 0 (Nat.le_refl _) (Nat.zero_le _) rfl) (by rfl) _ zs.length (zs.flatMap Cls.cells) (by rfl) (hn.out.alloc _) hfl (by decide) hn63 (by simp) zs.length _ (Nat.zero_add _) rfl ?_); intro A1 c1 w1 hown1 hb1))
    have hB1 : Below w.heap.size w w1 := ((Below.refl _ w).alloc (Nat.le_refl _) _).trans hb1
    have h1 : Hid (Holds w1.heap.size w1 (.slice A zs.length cap) zs) := Lib.hid (HI.out.next hB1)
    have h2 : Hid (Holds w1.heap.size w1 (.slice A1 zs.length c1) zs) := Lib.hid (holds_own hown1)
    have HB1 := Lib.hid hB1
    clear hown1 hb1 hB1 hn hfl
    go_wp2_with (first
      | (go_at_call 48; refine (sorted_c _ _ _ zs hlen _ h1.out).mono ?_; rintro e w2 ⟨v2, rfl, hv2, hb2⟩; obtain ⟨B2, d2, rfl⟩ := hv2.form; rw [hsl] at hv2; have HV2 := Lib.hid hv2; have HB2 := Lib.hid hb2; have h1' := Lib.hid (h1.out.next hb2); have h2' := Lib.hid (h2.out.next hb2); clear hv2 hb2)
      | (go_at_call 49; refine (refsorted_c _ _ _ zs hlen _ h2'.out).mono ?_; rintro e w3 ⟨v3, rfl, hv3, hb3⟩; rw [← hsl] at hv3; have hv3 := holds_own hv3; obtain ⟨B3, d3, rfl⟩ := hv3.form; rw [hsl] at hv3; have HV3 := Lib.hid hv3; have HB3 := Lib.hid hb3; have h1'' := Lib.hid (h1'.out.next hb3); have h2'' := Lib.hid (h2'.out.next hb3); have HV2' := Lib.hid (HV2.out.next hb3); clear hv3 hb3)
      | (go_at_call 47; refine (sameall_c _ _ _ _ _ _ (sortC zs) HZ'.out (by omega) _ HV2'.out HV3.out).mono ?_; rintro e w4 ⟨rfl, hb4⟩; have HB4 := Lib.hid hb4; have h14 := Lib.hid (h1''.out.next hb4); have h24 := Lib.hid (h2''.out.next hb4); clear hb4 HV2 HV2' HV3)
      | (go_at_call 50; refine (find_c _ _ _ zs id hlen _ h14.out).mono ?_; rintro e w5 ⟨rfl, hb5⟩; have HB5 := Lib.hid hb5; have h15 := Lib.hid (h14.out.next hb5); have h25 := Lib.hid (h24.out.next hb5); clear hb5)
      | (go_at_call 51; refine (reffind_c _ _ _ _ zs id hlen _ h25.out).mono ?_; rintro e w6 ⟨rfl, rfl⟩)
      | (go_at_call 47; refine (sameall_c _ _ _ _ _ _ zs HZ.out (by omega) _ h15.out h25.out).mono ?_; rintro e w7 ⟨rfl, hb7⟩; have HB7 := Lib.hid hb7; clear hb7)
      | (go_at_call 46; refine (HCL.out _).mono ?_; rintro e w8 ⟨rfl, hb8⟩; have HB8 := Lib.hid hb8; clear hb8))
    go_ret
    have e1 := HB1.out
    have e2 := e1.trans (HB2.out.mono e1.size)
    have e3 := e2.trans (HB3.out.mono e2.size)
    have e4 := e3.trans (HB4.out.mono e3.size)
    have e5 := e4.trans (HB5.out.mono e4.size)
    have e7 := e5.trans (HB7.out.mono e5.size)
    exact ⟨rfl, e7.trans (HB8.out.mono e7.size)⟩
set_option maxRecDepth 20000 in
set_option maxHeartbeats 400000 in
theorem sorts_any (A : Option Addr) (len cap : Nat) (id : Int) (w : World) (hn : ∃ zs, (∀ z ∈ zs, z.share < 18446744073709551616) ∧ Holds w.heap.size w (.slice A len cap) zs) :
    Calls Try.prog 7 #[.slice A len cap, .int .i64 id] w fun e w' => e = .returned (.bool true) ∧ Below w.heap.size w w' := by
  obtain ⟨zs, hz, hI⟩ := hn
  by_cases hbig : 70 < len
  · have hbigz : (70 : Int) < (len : Int) := by omega
    have HCL := Lib.hid lives_any
    clear hI hz
    go_enter Try.func7, Try.ntmps7
    go_wp2_with (go_at_call 46; refine (HCL.out _).mono ?_; rintro e w1 ⟨rfl, hb1⟩)
    go_ret
    exact ⟨rfl, hb1⟩
  · obtain ⟨a, c, e⟩ := hI.form
    have hl := (Value.slice.inj e).2.1
    exact sorts_t A len cap id zs hz (by omega) w hI
end Go.Proofs.Ytdoemgccmjddcaa.So
