/- The law LedgerParts. -/
import Derived.Test.YtdoemgccmjddcaaLp5
namespace Go.Proofs.Ytdoemgccmjddcaa.Ld
open Go.RowKit Go.Maps Wd Li Sr Sw

def othersL (ids zs : List Int) : List Int := zs.filter (fun z => !decide (z ∈ ids))
theorem others_in {ids zs : List Int} {k : Nat} {x : Int} (h : zs[k]? = some x) (hx : x ∈ ids) : othersL ids (zs.take (k + 1)) = othersL ids (zs.take k) := by
  unfold othersL; rw [List.take_add_one, h, List.filter_append]; simp [hx]
theorem others_out {ids zs : List Int} {k : Nat} {x : Int} (h : zs[k]? = some x) (hx : x ∉ ids) : othersL ids (zs.take (k + 1)) = othersL ids (zs.take k) ++ [x] := by
  unfold othersL; rw [List.take_add_one, h, List.filter_append]; simp [hx]
theorem others_len (ids zs : List Int) (k : Nat) : (othersL ids (zs.take k)).length ≤ k := Nat.le_trans (List.length_filter_le _ _) (List.length_take_le _ _)

theorem grown_block {a b : World} {g k : Nat} {x : Obj} (hg : a.grownBy b (some g)) (h : a.heap[k]? = some x) (hne : k ≠ g) : b.heap[k]? = some x :=
  (hg.block k (lt_of_get h) (fun e => hne (by injection e))).trans h
theorem three_alloc (U : World) (c0 c1 c2 : Array Value) (t : TypeId) : (((U.alloc (.cells c0 t)).alloc (.cells c1 t)).alloc (.cells c2 t)).heap[U.heap.size]? = some (.cells c0 t (0, 0)) ∧ (((U.alloc (.cells c0 t)).alloc (.cells c1 t)).alloc (.cells c2 t)).heap[U.heap.size + 1]? = some (.cells c1 t (0, 0)) ∧ (((U.alloc (.cells c0 t)).alloc (.cells c1 t)).alloc (.cells c2 t)).heap[U.heap.size + 2]? = some (.cells c2 t (0, 0)) := by
  have h0 := heap_alloc_new U (.cells c0 t)
  have h1 := heap_alloc_new (U.alloc (.cells c0 t)) (.cells c1 t)
  have h2 := heap_alloc_new ((U.alloc (.cells c0 t)).alloc (.cells c1 t)) (.cells c2 t)
  refine ⟨(Below.heap_alloc _ _ _ (by simp; omega)).trans ((Below.heap_alloc _ _ _ (by simp)).trans h0), (Below.heap_alloc _ _ _ (by simp)).trans (by simpa using h1), by simpa using h2⟩

set_option maxRecDepth 100000 in
set_option maxHeartbeats 8000000 in
theorem parts_t (A A2 : Option Addr) (n c c2 : Nat) (xs : List Note) (ids : List Int) (hwf : ∀ (j : Nat) (x : Note), xs[j]? = some x → (Lit.int .i64 x.id).wf = true) (w : World) (hI : Lies 3 Note.cells w.heap.size w (.slice A n c) xs) (hJ : Sl w w.heap.size 1 A2 ids.length (St.I ids)) :
    Calls Try.prog 9 #[.slice A n c, .slice A2 ids.length c2] w fun e w' => e = .returned (.bool true) ∧ Below w.heap.size w w' := by
  obtain ⟨_, _, e⟩ := hI.form
  obtain ⟨rfl, rfl, rfl⟩ := Value.slice.inj e
  clear e
  have HI := Lib.hid hI; have HJ := Lib.hid hJ; have HWF := Lib.hid hwf
  obtain ⟨i0, hi, hz0', hz1, hz2⟩ := info_parts int_inf
  clear hI hJ hwf
  go_enter Try.func9, Try.ntmps9
  go_upto_region 7 with (first
    | (go_at_call 62; refine (got_nil _ _ _).mono ?_; rintro e w' ⟨⟨v, rfl⟩, rfl⟩)
    | (go_at_call 63; refine (sent_nil _ _ _).mono ?_; rintro e w' ⟨⟨v2, rfl⟩, rfl⟩)
    | (go_at_call 64; refine (lost_nil _ _ _).mono ?_; rintro e w' ⟨⟨v3, rfl⟩, rfl⟩)
    | (go_at_call 54; refine (of_nil _ _).mono ?_; unfold zeroS Stat.agg; rintro e w1 ⟨rfl, hb1⟩; have B1 := Lib.hid hb1; clear hb1)
    | (go_at_call 56; refine (reason_nil _ _ _).mono ?_; rintro e w' ⟨rfl, rfl⟩)
    | (go_at_call 58; refine (ids_nil _).mono ?_; rintro e w' ⟨rfl, rfl⟩)
    | (go_at_call 60; refine (total_nil _).mono ?_; unfold zeroS Stat.agg; rintro e w2 ⟨rfl, hb2⟩; have B2 := Lib.hid (B1.out.trans (hb2.mono B1.out.size)); clear hb2)
    | (go_at_call 65; refine (keep_nil _ _).mono ?_; rintro e w' ⟨rfl, rfl⟩)
    | (go_at_call 66; refine (copy_nil _).mono ?_; rintro e w' ⟨rfl, rfl⟩))
  have hs2 := B2.out.size
  by_cases hbig : 80 < xs.length
  · have hbigz : (80 : Int) < (xs.length : Int) := by omega
    clear hbig
    go_wp2_with (go_at_call 52; refine (lives_c _).mono ?_; rintro e w3 ⟨rfl, hb3⟩)
    go_ret
    exact ⟨rfl, B2.out.trans (hb3.mono hs2)⟩
  have hbigz : ¬ (80 : Int) < (xs.length : Int) := by omega
  by_cases hbig2 : 80 < ids.length
  · have hbigz2 : (80 : Int) < (ids.length : Int) := by omega
    clear hbig hbig2
    go_wp2_with (go_at_call 52; refine (lives_c _).mono ?_; rintro e w3 ⟨rfl, hb3⟩)
    go_ret
    exact ⟨rfl, B2.out.trans (hb3.mono hs2)⟩
  have hbigz2 : ¬ (80 : Int) < (ids.length : Int) := by omega
  have hlen : xs.length ≤ 1048576 := by omega
  have hleni : ids.length ≤ 1048576 := by omega
  have hlow : ∀ i, ((books xs i).getD Book.zero).low 2147483648 := fun i => low_up (books_low xs i) (by omega)
  have hfin : ∀ zs, Ids (books xs) zs → zs.length ≤ xs.length := fun zs h => ids_len h
  have hwfs : ∀ i, (books xs i).isSome = true → (Lit.int .i64 i).wf = true := fun i h => by
    obtain ⟨j, x, hx, _, rfl⟩ := some_iff.1 h
    exact HWF.out j x hx
  have HLOW := Lib.hid hlow; have HFIN := Lib.hid hfin; have HWFS := Lib.hid hwfs
  clear hlow hfin hwfs
  have HI2 := Lib.hid (HI.out.below B2.out)
  have hplay := Lib.hid (play_c A xs.length c xs hlen HWF.out w2 (HI2.out.up hs2))
  go_upto_region 10 with (go_at_call 53; refine (hplay.out).mono ?_; rintro e w3 ⟨rfl, hl3, hb3⟩; have HL3 := Lib.hid hl3; have B3 := Lib.hid (B2.out.trans (hb3.mono hs2)); have hltL := lt_of_get hl3.cell; have hltM := hl3.lt; clear hl3 hb3)
  have hs3 := B3.out.size
  have HJ3 := Lib.hid ((HJ.out.below B3.out).more hs3)
  go_upto_region 12 with (first
    | (go_at_call 66; refine (copy_c _ _ _ (books xs) hlen (fun zs h => Nat.le_trans (HFIN.out zs h) hlen) w3 HL3.out).mono ?_; rintro e w4 ⟨La, Ma, rfl, hla, hLa, hMa, hb4⟩; have HLA := Lib.hid hla; have B34 := Lib.hid hb4; clear hla hb4)
    | (go_at_call 65; refine (keep_c _ _ _ (books xs) hlen A2 c2 ids hleni w4 (HL3.out.below B34.out hltL hltM) ((HJ3.out.below B34.out).more B34.out.size)).mono ?_; rintro e w5 ⟨Ls, Ms, rfl, hls, hLs, hMs, hb5⟩; have HLS := Lib.hid hls; have B45 := Lib.hid hb5; clear hls hb5))
  have hs4 := B34.out.size
  have hs5 := B45.out.size
  have hLA := lt_of_get HLA.out.cell
  have hMA := HLA.out.lt
  have hLS := lt_of_get HLS.out.cell
  have hMS := HLS.out.lt
  have hL5 := (HL3.out.below B34.out hltL hltM).below B45.out (by omega) (by omega)
  have HL5 := Lib.hid hL5
  have HLA5 := Lib.hid (HLA.out.below B45.out hLA hMA)
  have B35 := Lib.hid (B34.out.trans (B45.out.mono hs4))
  have B5 := Lib.hid (B3.out.trans (B35.out.mono hs3))
  have hL35 : w2.heap.size + 1 < w5.heap.size := by omega
  clear hL5 HLA B34 HL3 HJ3 hplay HI2 HI HWF B1 B2
  go_wp2_with (first
    | (go_at_call 58; refine (ids_c _ _ _ (books xs) hlen w5 HL5.out).mono ?_; rintro e w6 ⟨zs, Bz, dz, rfl, hi, hown, hb6⟩; have HZ := Lib.hid hi; have HOZ := Lib.hid hown; have B56 := Lib.hid hb6; clear hi hown hb6))
  have hs6 := B56.out.size
  have hzl := HFIN.out zs HZ.out
  have HL6 := Lib.hid (HL5.out.below B56.out hL35 (by omega))
  have HLA6 := Lib.hid (HLA5.out.below B56.out (by omega) (by omega))
  have HLS6 := Lib.hid (HLS.out.below B56.out hLS hMS)
  have B6 := Lib.hid (B5.out.trans (B56.out.mono (by omega)))
  have hL6 : w2.heap.size + 1 < w6.heap.size := by omega
  have hLA6 : La < w6.heap.size ∧ Ma < w6.heap.size ∧ Ls < w6.heap.size ∧ Ms < w6.heap.size := by omega
  have hne : w2.heap.size + 1 < Ma := by omega
  obtain ⟨hLA6, hMA6, hLS6, hMS6⟩ := hLA6
  clear HL5 HLA5 HLS B56 B5 B45 B35 hLA hMA hLS hMS
  go_loopg [9, 75] zs.length (fun kx s9 s75 wr => ∃ (k : Nat) (B9 : Option Addr) (c9 : Nat), s75 = .int .i64 k ∧ s9 = .slice B9 (othersL ids (zs.take k)).length c9 ∧ k ≤ zs.length ∧ zs.length - k ≤ kx ∧ Hid (wr.ownsRow w6.heap.size 3 1 s9 (othersL ids (zs.take k)).length (St.I (othersL ids (zs.take k)))) ∧ Hid (Below w6.heap.size w6 wr))
  case atStart => exact ⟨0, none, 0, rfl, rfl, by omega, by omega, Lib.hid (World.ownsRow_nil ..), Lib.hid (Below.refl _ _)⟩
  case round =>
    obtain ⟨k, B9, c9, rfl, rfl, hk, hkx, HO, HW⟩ := hrel
    by_cases hlt : k < zs.length
    · have hltz : (k : Int) < (zs.length : Int) := by omega
      obtain ⟨id, hid⟩ : ∃ id, zs[k]? = some id := ⟨zs[k], List.getElem?_eq_getElem hlt⟩
      have HOZr := Lib.hid (owns_bel HW.out (Nat.le_refl _) HOZ.out)
      obtain ⟨g, rfl, hg, hgb, hcg⟩ := intl_cell HOZr.out hid
      have HID := Lib.hid hid
      have hwid := HWFS.out id ((HZ.out.2 id).1 (List.mem_of_getElem? hid))
      have HB0 := Lib.hid (B6.out.trans (HW.out.mono (by have := B6.out.size; omega)))
      have HJr := Lib.hid (HJ.out.below HB0.out)
      have hwz := HW.out.size
      have HOFl := Lib.hid (fun (u : World) (hu : Below w6.heap.size w6 u) => of_c _ _ _ (books xs) id hwid (low_up (HLOW.out id) (by omega)) u (HL6.out.below hu hL6 (by omega)))
      have HOFa := Lib.hid (fun (u : World) (hu : Below w6.heap.size w6 u) => of_c _ _ _ (books xs) id hwid (low_up (HLOW.out id) (by omega)) u (HLA6.out.below hu hLA6 hMA6))
      have HOFs := Lib.hid (fun (u : World) (hu : Below w6.heap.size w6 u) => of_c _ _ _ (keepF (books xs) ids) id hwid (low_up (keep_low (by omega) ids HLOW.out id) (by omega)) u (HLS6.out.below hu hLS6 hMS6))
      clear hid hwid
      go_wp2_with fail
      go_loopg [12, 81] ids.length (fun kx s12 s81 wq => ∃ (q : Nat) (b : Bool), s81 = .int .i64 q ∧ s12 = .bool b ∧ q ≤ ids.length ∧ ids.length - q ≤ kx ∧ wq = wr ∧ Hid (b = decide (id ∈ ids.take q)))
      case atStart => exact ⟨0, false, rfl, rfl, by omega, by omega, rfl, Lib.hid (by simp)⟩
      case round =>
        obtain ⟨q, b, rfl, rfl, hq, hqx, rfl, HBQ⟩ := hrel
        by_cases hql : q < ids.length
        · have hqlz : (q : Int) < (ids.length : Int) := by omega
          obtain ⟨a, u, rfl, hab, hu, hc⟩ := HJr.out.cell1 (k := q) hql
          unfold St.I at hu
          simp only [List.getElem?_map] at hu
          obtain ⟨x, hx0, rfl⟩ := Option.map_eq_some_iff.1 hu
          have HX := Lib.hid hx0
          clear hu hx0
          cases b with
          | true =>
            go_wp2
            go_roundg (ids.length - (q + 1))
            case measure => omega
            case rel => exact ⟨q + 1, true, by go_num, rfl, by omega, by omega, rfl, Lib.hid (by have h := HBQ.out; rw [eq_comm, decide_eq_true_eq] at h; rw [eq_comm, decide_eq_true_eq, take_mem HX.out]; exact .inl h)⟩
          | false =>
            by_cases hxe : x = id
            · have e1 : (x == id) = true := by rw [beq_iff_eq]; exact hxe
              have HXE := Lib.hid hxe
              clear hxe
              go_wp2
              go_roundg (ids.length - (q + 1))
              case measure => omega
              case rel => exact ⟨q + 1, true, by go_num, rfl, by omega, by omega, rfl, Lib.hid (by rw [eq_comm, decide_eq_true_eq, take_mem HX.out]; exact .inr HXE.out.symm)⟩
            · have e1 : (x == id) = false := by rw [beq_eq_false_iff_ne]; exact hxe
              have HXE := Lib.hid hxe
              clear hxe
              go_wp2
              go_roundg (ids.length - (q + 1))
              case measure => omega
              case rel => exact ⟨q + 1, false, by go_num, rfl, by omega, by omega, rfl, Lib.hid (by have h := HBQ.out; rw [eq_comm, decide_eq_false_iff_not] at h; rw [eq_comm, decide_eq_false_iff_not, take_mem HX.out]; exact fun hh => hh.elim h (fun e => HXE.out e.symm))⟩
        · have hqlz : ¬ (q : Int) < (ids.length : Int) := by omega
          obtain rfl : q = ids.length := by omega
          have HBQ2 : Hid (b = decide (id ∈ ids)) := Lib.hid (by have := HBQ.out; rwa [List.take_length] at this)
          clear HBQ hql hq hqx
          cases b with
          | true =>
            have hin : id ∈ ids := by have h := HBQ2.out; rw [eq_comm, decide_eq_true_eq] at h; exact h
            have HOS := Lib.hid (fun (u : World) (hu : Below w6.heap.size w6 u) => (by have := HOFs.out u hu; rwa [keep_in hin] at this : Calls Try.prog 54 #[.pointer (some ⟨Ls, 0, none⟩), .int .i64 id] u fun e w' => e = .returned (statS ((books xs id).getD Book.zero)).agg ∧ Below u.heap.size u w'))
            have HOT := Lib.hid (others_in HID.out hin)
            clear hin HOFs
            generalize statS ((books xs id).getD Book.zero) = S at *
            obtain ⟨s0, s1, s2, s3, s4, s5⟩ := S
            unfold Stat.agg at HOS HOFl HOFa
            simp only at HOS HOFl HOFa
            go_wp2_with (first
              | (go_at_call 54; ((with_reducible refine (HOS.out wr HW.out).mono ?_); rintro e w7 ⟨rfl, hb7⟩; have K7 := Lib.hid hb7; clear hb7))
              | (go_at_call 54; ((with_reducible refine (HOFl.out w7 (HW.out.trans (K7.out.mono hwz))).mono ?_); rintro e w8 ⟨rfl, hb8⟩; have K8 := Lib.hid (K7.out.trans (hb8.mono K7.out.size)); clear hb8))
              | (go_at_call 54; ((with_reducible refine (HOFa.out w8 (HW.out.trans (K8.out.mono hwz))).mono ?_); rintro e w9 ⟨rfl, hb9⟩; have K9 := Lib.hid (K8.out.trans (hb9.mono K8.out.size)); clear hb9))
              | (go_at_call 54; ((with_reducible refine (HOFl.out w9 (HW.out.trans (K9.out.mono hwz))).mono ?_); rintro e w10 ⟨rfl, hb10⟩; have K10 := Lib.hid (K9.out.trans (hb10.mono K9.out.size)); clear hb10)))
            go_roundg (zs.length - (k + 1))
            case measure => omega
            case rel => exact ⟨k + 1, B9, c9, by go_num, by rw [HOT.out], by omega, by omega, Lib.hid (by rw [HOT.out]; exact owns_bel K10.out (Nat.le_refl _) HO.out), Lib.hid (HW.out.trans (K10.out.mono hwz))⟩
          | false =>
            have hin : id ∉ ids := by have h := HBQ2.out; rw [eq_comm, decide_eq_false_iff_not] at h; exact h
            have HOS := Lib.hid (fun (u : World) (hu : Below w6.heap.size w6 u) => (by have := HOFs.out u hu; rwa [keep_out hin] at this : Calls Try.prog 54 #[.pointer (some ⟨Ls, 0, none⟩), .int .i64 id] u fun e w' => e = .returned (statS ((none : Option Book).getD Book.zero)).agg ∧ Below u.heap.size u w'))
            have HOT := Lib.hid (others_out HID.out hin)
            have hol := others_len ids zs k
            clear hin HOFs
            generalize othersL ids (zs.take k) = os at *
            generalize statS ((books xs id).getD Book.zero) = S at *
            obtain ⟨s0, s1, s2, s3, s4, s5⟩ := S
            have hz0 : (statS ((none : Option Book).getD Book.zero)).agg = .agg #[.int .i64 0, .int .i64 0, .int .i64 0, .int .i64 0, .int .i64 0, .int .i64 0] := rfl
            rw [hz0] at HOS
            unfold Stat.agg at HOFl HOFa
            simp only at HOFl HOFa
            clear hz0
            go_upto_region 23 with ((at_builtin; go_must (refine wpList_push (by rfl) _ _ 27 (by rfl) w6.heap.size 3 i0 _ 1 8 Try.underlying27 hi hz0' hz1 hz2 rfl (by decide) (by decide) wr _ rfl (by simp [Value.oneCell']) _ _ _ HO.out (by rfl) (by first | rfl | go_simp) (by omega) hwz ?_); intro A5 c5 w7 hown7 hb7; have HO7 := Lib.hid hown7; have K7 := Lib.hid (HW.out.trans hb7); clear hown7 hb7))
            have hs7 := K7.out.size
            go_wp2_with (first
              | (go_at_call 54; ((with_reducible refine (HOS.out w7 K7.out).mono ?_); rintro e w8 ⟨rfl, hb8⟩; have K8 := Lib.hid hb8; clear hb8))
              | (go_at_call 54; ((with_reducible refine (HOFa.out w8 (K7.out.trans (K8.out.mono hs7))).mono ?_); rintro e w9 ⟨rfl, hb9⟩; have K9 := Lib.hid (K8.out.trans (hb9.mono K8.out.size)); clear hb9))
              | (go_at_call 54; ((with_reducible refine (HOFl.out w9 (K7.out.trans (K9.out.mono hs7))).mono ?_); rintro e w10 ⟨rfl, hb10⟩; have K10 := Lib.hid (K9.out.trans (hb10.mono K9.out.size)); clear hb10)))
            go_roundg (zs.length - (k + 1))
            case measure => omega
            case rel => exact ⟨k + 1, A5, c5, by go_num, by rw [HOT.out]; simp, by omega, by omega, Lib.hid (by rw [HOT.out]; have := owns_bel K10.out (Nat.le_refl _) HO7.out; simpa [St.I] using this), Lib.hid (K7.out.trans (K10.out.mono hs7))⟩
    · have hltz : ¬ (k : Int) < (zs.length : Int) := by omega
      obtain rfl : k = zs.length := by omega
      rw [List.take_length] at HO
      have hol := others_len ids zs zs.length
      rw [List.take_length] at hol ⊢
      have HSO := Lib.hid (Sl.of_own HO.out)
      have hwz := HW.out.size
      have hlowK : ∀ i, ((keepF (books xs) ids i).getD Book.zero).low 2147483648 := keep_low (by omega) ids HLOW.out
      have hlowO : ∀ i, ((keepF (books xs) (othersL ids zs) i).getD Book.zero).low 2147483648 := keep_low (by omega) _ HLOW.out
      have hwfK : ∀ l i, (keepF (books xs) l i).isSome = true → (Lit.int .i64 i).wf = true := fun l i h => by
        unfold keepF at h; split at h
        · exact HWFS.out i h
        · cases h
      have hfinK : ∀ l ys, Ids (keepF (books xs) l) ys → ys.length ≤ 1048576 := fun l ys h => by
        have e := ids_eq h (ids_keep l HZ.out)
        have h1 := List.length_filter_le (fun z => decide (z ∈ l)) zs
        rw [e]; omega
      have HLK := Lib.hid hlowK; have HLO := Lib.hid hlowO; have HWK := Lib.hid hwfK; have HFK := Lib.hid hfinK
      have hfl : ∀ ys, Ids (books xs) ys → ys.length ≤ 1048576 := fun ys h => Nat.le_trans (HFIN.out ys h) hlen
      have HFL := Lib.hid hfl
      clear hlowK hlowO hwfK hfinK hfl HO
      generalize hos : othersL ids zs = os at *
      have HOSq := Lib.hid hos
      clear hos
      have hosl : os.length ≤ 1048576 := by omega
      have hos0 := HOSq.out
      go_upto_region 27 with (first
        | (go_at_call 60; ((with_reducible refine (total_c Ls Ms _ (keepF (books xs) ids) hlen HLK.out (HWK.out _) (HFK.out _) wr (HLS6.out.below HW.out hLS6 hMS6)).mono ?_); rintro e w7 ⟨zA, hiA, he, hb7⟩; have HIA := Lib.hid hiA; have R7 := Lib.hid hb7; clear hiA hb7; have hlA := tot_low HLK.out zA; generalize htA : totS (keepF (books xs) ids) zA = tA at he hlA; have HTA := Lib.hid htA; clear htA; obtain ⟨a0, a1, a2, a3, a4, a5⟩ := tA; unfold Stat.agg at he; simp only at he; subst he; unfold Stat.low at hlA; simp only at hlA; have HLA := Lib.hid hlA; clear hlA))
        | (go_at_call 65; ((with_reducible refine (keep_c _ _ _ (books xs) hlen B9 c9 os hosl w7 (HL6.out.below (HW.out.trans (R7.out.mono hwz)) hL6 (by omega)) ((HSO.out.below R7.out).more R7.out.size)).mono ?_); rintro e w8 ⟨Lo, Mo, rfl, hlo, hLo, hMo, hb8⟩; have HLOt := Lib.hid hlo; have R8 := Lib.hid (R7.out.trans (hb8.mono R7.out.size)); clear hlo hb8))
        | (go_at_call 60; ((with_reducible refine (total_c Lo Mo _ (keepF (books xs) os) hlen HLO.out (HWK.out _) (HFK.out _) w8 HLOt.out).mono ?_); rintro e w9 ⟨zB, hiB, he, hb9⟩; have HIB := Lib.hid hiB; have R9 := Lib.hid (R8.out.trans (hb9.mono R8.out.size)); clear hiB hb9; have hlB := tot_low HLO.out zB; generalize htB : totS (keepF (books xs) os) zB = tB at he hlB; have HTB := Lib.hid htB; clear htB; obtain ⟨b0, b1, b2, b3, b4, b5⟩ := tB; unfold Stat.agg at he; simp only at he; subst he; unfold Stat.low at hlB; simp only at hlB; have HLB := Lib.hid hlB; clear hlB))
        | (go_at_call 60; ((with_reducible refine (total_c _ _ _ (books xs) hlen HLOW.out HWFS.out HFL.out w9 (HL6.out.below (HW.out.trans (R9.out.mono hwz)) hL6 (by omega))).mono ?_); rintro e w10 ⟨zT, hiT, he, hb10⟩; have ez := ids_eq HZ.out hiT; subst ez; have R10 := Lib.hid (R9.out.trans (hb10.mono R9.out.size)); clear hiT hb10; have HE := parts_tot HZ.out HIA.out (by have h := HIB.out; rw [← HOSq.out] at h; exact h); rw [show zs.filter (fun z => !decide (z ∈ ids)) = os from HOSq.out, HTA.out, HTB.out] at HE; rw [← HE] at he; have HET := Lib.hid HE; clear HE; unfold addS Stat.agg at he; simp only at he; subst he))
        | (refine wpList_store_whole (by rfl) 82 _ _ (by rfl) 6 Try.sizeOf82 _ _ _ 82 (by rfl) (by rfl) (three_alloc w10 #[.int .i64 0, .int .i64 0, .int .i64 0, .int .i64 0, .int .i64 0, .int .i64 0] #[.int .i64 0, .int .i64 0, .int .i64 0, .int .i64 0, .int .i64 0, .int .i64 0] #[.int .i64 0, .int .i64 0, .int .i64 0, .int .i64 0, .int .i64 0, .int .i64 0] 82).1 (by rfl) (by rfl) (by simp [Value.oneCell']) ?_; intro wa ha hga; have HXA := Lib.hid ha; have HGA := Lib.hid hga; clear ha hga)
        | (refine wpList_store_whole (by rfl) 82 _ _ (by rfl) 6 Try.sizeOf82 _ _ _ 82 (by rfl) (by rfl) (grown_block HGA.out (three_alloc w10 #[.int .i64 0, .int .i64 0, .int .i64 0, .int .i64 0, .int .i64 0, .int .i64 0] #[.int .i64 0, .int .i64 0, .int .i64 0, .int .i64 0, .int .i64 0, .int .i64 0] #[.int .i64 0, .int .i64 0, .int .i64 0, .int .i64 0, .int .i64 0, .int .i64 0] 82).2.1 (by omega)) (by rfl) (by rfl) (by simp [Value.oneCell']) ?_; intro wb hb hgb; have HXB := Lib.hid hb; have HGB := Lib.hid hgb; clear hb hgb)
        | (refine wpList_store_whole (by rfl) 82 _ _ (by rfl) 6 Try.sizeOf82 _ _ _ 82 (by rfl) (by rfl) (grown_block HGB.out (grown_block HGA.out (three_alloc w10 #[.int .i64 0, .int .i64 0, .int .i64 0, .int .i64 0, .int .i64 0, .int .i64 0] #[.int .i64 0, .int .i64 0, .int .i64 0, .int .i64 0, .int .i64 0, .int .i64 0] #[.int .i64 0, .int .i64 0, .int .i64 0, .int .i64 0, .int .i64 0, .int .i64 0] 82).2.2 (by omega)) (by omega)) (by rfl) (by rfl) (by simp [Value.oneCell']) ?_; intro wc hc hgc; have HXC := Lib.hid hc; have HGC := Lib.hid hgc; clear hc hgc))
      obtain ⟨p1, p2, p3, p4, p5, p6, p7, p8, p9, p10, p11, p12⟩ := HLA.out
      obtain ⟨q1, q2, q3, q4, q5, q6, q7, q8, q9, q10, q11, q12⟩ := HLB.out
      have hm1 : 17179869184 * (zA.length : Int) ≤ 18014398509481984 := by have := HFK.out _ _ HIA.out; omega
      have hm2 : 17179869184 * (zB.length : Int) ≤ 18014398509481984 := by have := HFK.out _ _ HIB.out; omega
      generalize 17179869184 * (zA.length : Int) = m1 at *
      generalize 17179869184 * (zB.length : Int) = m2 at *
      have hR10 := R10.out.size
      have KC : Hid (Below w6.heap.size w6 wc) := Lib.hid (by
        have k0 := HW.out.trans (R10.out.mono hwz)
        have k1 := ((k0.alloc (by omega) (.cells #[.int .i64 0, .int .i64 0, .int .i64 0, .int .i64 0, .int .i64 0, .int .i64 0] 82)).alloc (by simp; omega) (.cells #[.int .i64 0, .int .i64 0, .int .i64 0, .int .i64 0, .int .i64 0, .int .i64 0] 82)).alloc (by simp; omega) (.cells #[.int .i64 0, .int .i64 0, .int .i64 0, .int .i64 0, .int .i64 0, .int .i64 0] 82)
        have k2 := k1.grown HGA.out k1.size (fun j hj => by injection hj; omega)
        have k3 := k2.grown HGB.out k2.size (fun j hj => by injection hj; omega)
        exact k3.grown HGC.out k3.size (fun j hj => by injection hj; omega))
      have HXA2 := Lib.hid (grown_block HGC.out (grown_block HGB.out HXA.out (by omega)) (by omega))
      have HXB2 := Lib.hid (grown_block HGC.out HXB.out (by omega))
      have HLac := Lib.hid (HLA6.out.below KC.out hLA6 hMA6)
      have hgot := got_c La Ma xs.length (books xs) 7 5 (by decide) (by omega) (low_up (HLOW.out 7) (by omega)) wc HLac.out
      have HGOT := Lib.hid hgot
      have hkc := KC.out.size
      clear hgot HXA HXB HGA HGB HGC HIA HIB HTA HTB HLK HLO HWK HFK HLA HLB R7 R8 R9 HSO HLOt
      have xa0 := cells_of HXA2.out 0 _ rfl; have xa1 := cells_of HXA2.out 1 _ rfl; have xa2 := cells_of HXA2.out 2 _ rfl; have xa4 := cells_of HXA2.out 4 _ rfl; have xa5 := cells_of HXA2.out 5 _ rfl
      have xb0 := cells_of HXB2.out 0 _ rfl; have xb1 := cells_of HXB2.out 1 _ rfl; have xb2 := cells_of HXB2.out 2 _ rfl; have xb4 := cells_of HXB2.out 4 _ rfl; have xb5 := cells_of HXB2.out 5 _ rfl
      have xc0 := cells_of HXC.out 0 _ rfl; have xc1 := cells_of HXC.out 1 _ rfl; have xc2 := cells_of HXC.out 2 _ rfl; have xc4 := cells_of HXC.out 4 _ rfl; have xc5 := cells_of HXC.out 5 _ rfl
      go_upto_region 30 with (go_at_call 62; ((with_reducible refine (HGOT.out).mono ?_); rintro e w11 ⟨v11, rfl, hl11, hg11⟩; have HL11 := Lib.hid hl11; have HG11 := Lib.hid hg11; clear hl11 hg11))
      have hg11s := HG11.out.size
      have HL11l : Hid (Led w11 (w2.heap.size + 1) w2.heap.size xs.length (books xs)) := Lib.hid ((HL6.out.below KC.out hL6 (by omega)).grown HG11.out (by intro e; injection e with e; omega) (by intro e; injection e with e; omega))
      have HT11 := Lib.hid (grown_block HG11.out HXC.out (by omega))
      have K11 : Hid (Below w.heap.size w w11) := Lib.hid ((B6.out.trans (KC.out.mono B6.out.size)).grown HG11.out (by have := B6.out.size; omega) (fun j hj => by have := B6.out.size; injection hj; omega))
      have htot := total_c _ _ _ (books xs) hlen HLOW.out HWFS.out HFL.out w11.drew (HL11l.out.below (Below.refl _ w11).drew (lt_of_get HL11l.out.cell) HL11l.out.lt)
      have HTOT := Lib.hid htot
      have hltT := lt_of_get HT11.out
      clear htot xa0 xa1 xa2 xa4 xa5 xb0 xb1 xb2 xb4 xb5 xc0 xc1 xc2 xc4 xc5 HXA2 HXB2 HXC HGOT HL11 HL11l
      have t0 := cells_of HT11.out 0 _ rfl; have t1 := cells_of HT11.out 1 _ rfl; have t2 := cells_of HT11.out 2 _ rfl; have t3 := cells_of HT11.out 3 _ rfl; have t4 := cells_of HT11.out 4 _ rfl; have t5 := cells_of HT11.out 5 _ rfl
      go_region_with (first
        | (go_at_call 60; refine (HTOT.out).mono ?_; rintro e w12 ⟨zU, hiU, he, hb12⟩; have ez := ids_eq HZ.out hiU; subst ez; rw [← HET.out] at he; unfold addS Stat.agg at he; simp only at he; subst he; have HB12 := Lib.hid hb12; have HT12 := Lib.hid ((hb12.block _ hltT).trans HT11.out); clear hiU hb12; have u0 := cells_of HT12.out 0 _ rfl; have u1 := cells_of HT12.out 1 _ rfl; have u2 := cells_of HT12.out 2 _ rfl; have u3 := cells_of HT12.out 3 _ rfl; have u4 := cells_of HT12.out 4 _ rfl; have u5 := cells_of HT12.out 5 _ rfl)
        | (go_at_call 52; refine (lives_c _).mono ?_; rintro e w13 ⟨rfl, hb13⟩; have HB13 := Lib.hid (HB12.out.trans (hb13.mono HB12.out.size)); clear hb13))
      all_goals
        go_wp2
        go_ret
        exact ⟨rfl, K11.out.drew.trans (HB13.out.mono K11.out.size)⟩
end Go.Proofs.Ytdoemgccmjddcaa.Ld
