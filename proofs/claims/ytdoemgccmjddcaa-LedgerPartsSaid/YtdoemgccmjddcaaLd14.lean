/- The law LedgerTells. -/
import Derived.Test.YtdoemgccmjddcaaLd13
namespace Go.Proofs.Ytdoemgccmjddcaa.Ld
open Go.RowKit Go.Maps Wd Li Sr Sw

theorem size100 : size 100 = 100 := by unfold size; omega
theorem size50 : size 50 = 50 := by unfold size; omega
set_option maxRecDepth 20000 in
set_option maxHeartbeats 2000000 in
theorem lives_c (w : World) : Calls Try.prog 52 #[] w fun e w' => e = .returned (.bool true) ∧ Below w.heap.size w w' := by
  have h0 := Lib.hid (new_led w)
  have hb0 := Lib.hid (((Below.refl _ w).alloc (Nat.le_refl _) (.map #[] 0)).alloc (by simp) (.cells #[.map (some w.heap.size)] 156))
  have z0 : Book.zero.low 4611686018 := zero_low _ (by omega)
  have wf1 : (Lit.int .i64 1).wf = true := by decide
  have hgot := got_c (w.heap.size + 1) w.heap.size 0 (fun _ => none) 1 100 wf1 (by omega) z0 _ h0.out
  have HGOT := Lib.hid hgot
  clear hgot h0
  go_enter Try.func52, Try.ntmps52
  go_wp2_with (first
    | (go_at_call 126; refine (new_c _).mono ?_; rintro e w' ⟨rfl, rfl⟩)
    | (go_at_call 62; refine (HGOT.out).mono ?_; rintro e w1 ⟨v1, rfl, hl1, hg1⟩; have h1 := Lib.hid hl1; have b1 := Lib.hid (hb0.out.grown hg1 (by simp; omega) (fun j hj => by cases hj; exact Nat.le_refl _)); clear HGOT hl1 hg1)
    | (go_at_call 62; refine (got_c _ _ _ _ 1 50 wf1 (by omega) (by simp [Book.low, Book.zero, size100, size50]) _ h1.out).mono ?_; rintro e w2 ⟨v2, rfl, hl2, hg2⟩; have h2 := Lib.hid hl2; have b2 := Lib.hid (b1.out.grown hg2 b1.out.size (fun j hj => by cases hj; exact Nat.le_refl _)); clear h1 hl2 hg2)
    | (go_at_call 63; refine (sent_c _ _ _ _ 1 100 wf1 (by omega) (by simp [Book.low, Book.zero, size100, size50]) _ h2.out).mono ?_; rintro e w3 ⟨v3, rfl, hl3, hg3⟩; have h3 := Lib.hid hl3; have b3 := Lib.hid (b2.out.grown hg3 b2.out.size (fun j hj => by cases hj; exact Nat.le_refl _)); clear h2 hl3 hg3)
    | (go_at_call 54; refine (of_c _ _ _ _ 1 wf1 (by simp [Book.low, Book.zero, size100, size50]) _ h3.out).mono ?_; rintro e w4 ⟨rfl, hb4⟩; have b4 := Lib.hid (b3.out.trans (hb4.mono b3.out.size)); clear h3 hb4; simp [statS, lostS, Book.zero, size100, size50, Stat.agg]))
  go_ret
  exact ⟨rfl, b4.out⟩

theorem ids_len {xs : List Note} {zs : List Int} (h : Ids (books xs) zs) : zs.length ≤ xs.length := by
  have hn : zs.Nodup := h.1.imp (fun h => by omega)
  have hs : zs ⊆ xs.map (fun x => x.id) := fun z hz => by
    obtain ⟨j, x, hx, _, rfl⟩ := some_iff.1 ((h.2 z).1 hz)
    exact List.mem_map.2 ⟨x, List.mem_of_getElem? hx, rfl⟩
  have := nodup_le hn hs
  simpa using this
theorem sameints_n (A A2 : Option Addr) (c c2 : Nat) (xs : List Int) (hx : xs.length ≤ 1048576) (w : World) (h1 : Sl w w.heap.size 1 A xs.length (St.I xs)) (h2 : Sl w w.heap.size 1 A2 xs.length (St.I xs)) :
    Calls Try.prog 32 #[.slice A xs.length c, .slice A2 xs.length c2] w fun e w' => e = .returned (.bool true) ∧ Below w.heap.size w w' := sameints_c A A2 c c2 xs hx w h1 h2

set_option maxRecDepth 20000 in
set_option maxHeartbeats 4000000 in
theorem tells_t (A : Option Addr) (n c : Nat) (xs : List Note) (id r : Int) (hid : (Lit.int .i64 id).wf = true) (hwf : ∀ (j : Nat) (x : Note), xs[j]? = some x → (Lit.int .i64 x.id).wf = true) (hlv : ∀ w, Calls Try.prog 52 #[] w fun e w' => e = .returned (.bool true) ∧ Below w.heap.size w w') (w : World) (hI : Lies 3 Note.cells w.heap.size w (.slice A n c) xs) :
    Calls Try.prog 8 #[.slice A n c, .int .i64 id, .int .i64 r] w fun e w' => e = .returned (.bool true) ∧ Below w.heap.size w w' := by
  obtain ⟨_, _, e⟩ := hI.form
  obtain ⟨rfl, rfl, rfl⟩ := Value.slice.inj e
  clear e
  have HLV := Lib.hid hlv
  by_cases hbig : 80 < xs.length
  · have hbigz : (80 : Int) < (xs.length : Int) := by omega
    clear hI hlv hwf hid
    go_enter Try.func8, Try.ntmps8
    go_wp2_with (go_at_call 52; refine (HLV.out _).mono ?_; rintro e w1 ⟨rfl, hb1⟩)
    go_ret
    exact ⟨rfl, hb1⟩
  · have hbigz : ¬ (80 : Int) < (xs.length : Int) := by omega
    have hlen : xs.length ≤ 1048576 := by omega
    have hlow : ∀ i, ((books xs i).getD Book.zero).low 2147483648 := fun i => low_up (books_low xs i) (by omega)
    have hfin : ∀ zs, Ids (books xs) zs → zs.length ≤ 1048576 := fun zs h => Nat.le_trans (ids_len h) hlen
    have hwfs : ∀ i, (books xs i).isSome = true → (Lit.int .i64 i).wf = true := fun i h => by
      obtain ⟨j, x, hx, _, rfl⟩ := some_iff.1 h
      exact hwf j x hx
    have HI := Lib.hid hI; have HW := Lib.hid hwf; have HLOW := Lib.hid hlow; have HFIN := Lib.hid hfin; have HWFS := Lib.hid hwfs; have HID := Lib.hid hid
    clear hI hlv hwf hlow hfin hwfs hid
    go_enter Try.func8, Try.ntmps8
    go_upto_region 4 with (go_at_call 53; refine (play_c _ _ _ xs hlen HW.out _ HI.out).mono ?_; rintro e w1 ⟨rfl, hl1, hb1⟩; have HL1 := Lib.hid hl1; have HB1 := Lib.hid hb1; have hltL := lt_of_get hl1.cell; have hltM := hl1.lt; clear hl1 hb1)
    have HI1 := Lib.hid (HI.out.next HB1.out)
    have K0 : Hid (Below w1.heap.size w1 w1) := Lib.hid (Below.refl _ _)
    obtain ⟨S, hS⟩ : ∃ S, S = statS ((books xs id).getD Book.zero) := ⟨_, rfl⟩
    have hof := of_c _ _ _ _ id HID.out (low_up (HLOW.out id) (by omega)) _ HL1.out
    have hrof := fun (u : World) (hu : Lies 3 Note.cells u.heap.size u (.slice A xs.length c) xs) => refof_c A _ c xs id hlen u hu
    rw [← hS] at hof
    simp only [← hS] at hrof
    have HOF := Lib.hid hof; have HROF := Lib.hid hrof
    clear hof hrof hS
    obtain ⟨s0, s1, s2, s3, s4, s5⟩ := S
    unfold Stat.agg at HOF HROF
    simp only at HOF HROF
    go_wp2_with (first
      | (go_at_call 54; refine (HOF.out).mono ?_; rintro e w2 ⟨rfl, hb2⟩; have K2 := Lib.hid hb2; clear hb2)
      | (go_at_call 55; refine (HROF.out _ (HI1.out.next K2.out)).mono ?_; rintro e w3 ⟨rfl, hb3⟩; have K3 := Lib.hid (K2.out.trans (hb3.mono K2.out.size)); clear hb3)
      | (go_at_call 56; refine (reason_c _ _ _ _ id r HID.out _ (HL1.out.below K3.out hltL hltM)).mono ?_; rintro e w4 ⟨rfl, rfl⟩)
      | (go_at_call 57; refine (refreason_c _ _ _ xs id r hlen _ (HI1.out.next K3.out)).mono ?_; rintro e w5 ⟨rfl, hb5⟩; have K5 := Lib.hid (K3.out.trans (hb5.mono K3.out.size)); clear hb5)
      | (go_at_call 58; refine (ids_c _ _ _ _ hlen _ (HL1.out.below K5.out hltL hltM)).mono ?_; rintro e w6 ⟨zs, B6, d6, rfl, hi6, ho6, hb6⟩; have HI6 := Lib.hid hi6; have HO6 := Lib.hid (Sl.of_own ho6); have K6 := Lib.hid (K5.out.trans (hb6.mono K5.out.size)); clear hi6 ho6 hb6)
      | (go_at_call 59; refine (refids_c _ _ _ xs hlen _ (HI1.out.next K6.out)).mono ?_; rintro e w7 ⟨zs7, B7, d7, rfl, hi7, ho7, hb7⟩; obtain rfl := ids_eq hi7 HI6.out; have HO7 := Lib.hid (Sl.of_own ho7); have HO67 := Lib.hid ((HO6.out.below hb7).more hb7.size); have K7 := Lib.hid (K6.out.trans (hb7.mono K6.out.size)); clear hi7 ho7 hb7)
      | (go_at_call 32; refine (sameints_n _ _ _ _ _ (HFIN.out _ HI6.out) _ HO67.out HO7.out).mono ?_; rintro e w8 ⟨rfl, hb8⟩; have K8 := Lib.hid (K7.out.trans (hb8.mono K7.out.size)); clear hb8)
      | (go_at_call 60; refine (total_c _ _ _ _ hlen HLOW.out HWFS.out HFIN.out _ (HL1.out.below K8.out hltL hltM)).mono ?_; rintro e w9 ⟨zs9, hi9, rfl, hb9⟩; have HI9 := Lib.hid hi9; have K9 := Lib.hid (K8.out.trans (hb9.mono K8.out.size)); clear hi9 hb9; unfold Stat.agg)
      | (go_at_call 61; refine (reftotal_c _ _ _ xs hlen HLOW.out HFIN.out _ (HI1.out.next K9.out)).mono ?_; rintro e w10 ⟨zs10, hi10, rfl, hb10⟩; obtain rfl := ids_eq hi10 HI9.out; have K10 := Lib.hid (K9.out.trans (hb10.mono K9.out.size)); clear hi10 hb10; unfold Stat.agg)
      | (go_at_call 52; refine (HLV.out _).mono ?_; rintro e w11 ⟨rfl, hb11⟩; have K11 := Lib.hid (K10.out.trans (hb11.mono K10.out.size)); clear hb11))
    go_ret
    exact ⟨rfl, HB1.out.trans (K11.out.mono HB1.out.size)⟩
end Go.Proofs.Ytdoemgccmjddcaa.Ld
