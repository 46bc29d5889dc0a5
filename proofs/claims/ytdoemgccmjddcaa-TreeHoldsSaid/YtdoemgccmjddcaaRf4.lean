/- The reference's Check. -/
import Derived.Test.YtdoemgccmjddcaaRf3
namespace Go.Proofs.Ytdoemgccmjddcaa.Tr
open Go.RowKit Go.Maps Go.Proofs.Ytdoemgccmjddcaa.Wd Go.Proofs.Ytdoemgccmjddcaa.Li Go.Proofs.Ytdoemgccmjddcaa.Mp Go.Proofs.Ytdoemgccmjddcaa.Tp Go.Proofs.Ytdoemgccmjddcaa.Cl Go.Proofs.Ytdoemgccmjddcaa.So Go.Proofs.Ytdoemgccmjddcaa.Sw
attribute [local go_sem] run_store_float

variable {l : List Cls}
theorem find_lt {k : Nat} {x : Cls} (hx : l[k]? = some x) : findC l x.id < (k : Int) ↔ ¬ findC (l.take k) x.id < 0 := by
  rw [find_neg]
  rcases find_cases l x.id with ⟨h, hn⟩ | ⟨i, c, h, hc, he, hm⟩
  · exact absurd (List.mem_map.2 ⟨x, List.mem_of_getElem? hx, rfl⟩) hn
  · rw [h, Classical.not_not]
    constructor
    · intro hlt
      exact List.mem_map.2 ⟨c, List.mem_iff_getElem?.2 ⟨i, by rw [List.getElem?_take_of_lt (by omega)]; exact hc⟩, he⟩
    · intro hin
      obtain ⟨d, hd, hde⟩ := List.mem_map.1 hin
      obtain ⟨j, hj⟩ := List.mem_iff_getElem?.1 hd
      have hjl := (List.getElem?_eq_some_iff.1 hj).1
      rw [List.length_take] at hjl
      rw [List.getElem?_take_of_lt (by omega)] at hj
      rcases Nat.lt_or_ge i k with h1 | h1
      · omega
      · exact absurd hde (hm j d (by omega) hj)
def nroot (l : List Cls) (k : Nat) : Nat := ((l.take k).filter (fun c => c.parent == 0)).length
theorem nroot_in {k : Nat} {x : Cls} (hx : l[k]? = some x) (hp : x.parent = 0) : nroot l (k + 1) = nroot l k + 1 := by
  unfold nroot; rw [List.take_add_one, hx, List.filter_append, List.length_append]; simp [hp]
theorem nroot_out {k : Nat} {x : Cls} (hx : l[k]? = some x) (hp : x.parent ≠ 0) : nroot l (k + 1) = nroot l k := by
  unfold nroot; rw [List.take_add_one, hx, List.filter_append, List.length_append]
  have : (Option.toList (some x)).filter (fun c => c.parent == 0) = [] := by simp [hp]
  rw [this]; simp
theorem nroot_le (l : List Cls) (k : Nat) : nroot l k ≤ k := Nat.le_trans (List.length_filter_le _ _) (List.length_take_le _ _)
theorem nodup_filter {p : Cls → Bool} : ∀ {l : List Cls}, (ids l).Nodup → (ids (l.filter p)).Nodup
  | [], h => h
  | x :: l, h => by
    have h' : x.id ∉ ids l ∧ (ids l).Nodup := List.nodup_cons.1 h
    by_cases hp : p x = true
    · rw [List.filter_cons_of_pos hp]
      refine List.nodup_cons.2 ⟨fun hm => h'.1 ?_, nodup_filter h'.2⟩
      obtain ⟨c, hc, e⟩ := List.mem_map.1 hm
      exact List.mem_map.2 ⟨c, (List.mem_filter.1 hc).1, e⟩
    · rw [List.filter_cons_of_neg hp]; exact nodup_filter h'.2
theorem nroot_one (G : Tp.Good l) {r : Int} (R : Tp.Root l r) : nroot l l.length = 1 := by
  unfold nroot
  rw [List.take_length]
  have hn := nodup_filter (p := fun c => c.parent == 0) G.nodup
  have hall : ∀ c ∈ l.filter (fun c => c.parent == 0), c.id = r := fun c hc => R.one c (List.mem_filter.1 hc).1 (by simpa using (List.mem_filter.1 hc).2)
  obtain ⟨c, hc, _, hp⟩ := R.root
  have hm : c ∈ l.filter (fun c => c.parent == 0) := List.mem_filter.2 ⟨hc, by simpa using hp⟩
  generalize l.filter (fun c => c.parent == 0) = m at *
  match m, hm with
  | [x], _ => rfl
  | x :: y :: m, _ =>
    exfalso
    have h1 := hall x (by simp); have h2 := hall y (by simp)
    have h3 : x.id ∉ ids (y :: m) := (List.nodup_cons.1 hn).1
    exact h3 (List.mem_map.2 ⟨y, by simp, h2.trans h1.symm⟩)
theorem root_of (G : Tp.Good l) (h1 : nroot l l.length = 1) (hp : ∀ c ∈ l, c.parent ≠ 0 → c.parent ∈ ids l) : Tp.Root l (rootS l) := by
  unfold nroot at h1
  rw [List.take_length] at h1
  obtain ⟨x, hx⟩ := List.length_eq_one_iff.1 h1
  have hm : x ∈ l.filter (fun c => c.parent == 0) := by rw [hx]; simp
  obtain ⟨hxl, hxp⟩ := List.mem_filter.1 hm
  have hone : ∀ c ∈ l, c.parent = 0 → c = x := fun c hc h0 => by
    have : c ∈ l.filter (fun c => c.parent == 0) := List.mem_filter.2 ⟨hc, by simpa using h0⟩
    rw [hx] at this; simpa using this
  have hr : rootS l = x.id := by
    unfold rootS
    cases hf : l.find? (fun c => c.parent == 0) with
    | none => rw [List.find?_eq_none] at hf; exact absurd hxp (hf x hxl)
    | some d => rw [hone d (List.mem_of_find?_eq_some hf) (by have := List.find?_some hf; simpa using this)]
  rw [hr]
  exact ⟨⟨x, hxl, rfl, by simpa using hxp⟩, fun c hc h0 => by rw [hone c hc h0], hp⟩
theorem check_is (hne : l.length ≠ 0) (h64 : ¬ 64 < l.length) : checkS l = scan l l.length := by unfold checkS; rw [if_neg hne, if_neg h64]

set_option maxRecDepth 100000 in
set_option maxHeartbeats 8000000 in
theorem refcheck_c (A : Option Addr) (n c : Nat) (l : List Cls) (hs : ∀ x ∈ l, x.share < 18446744073709551616) (hlen : l.length ≤ 1000000) (w : World) (hI : Holds w.heap.size w (.slice A n c) l) :
    Calls Try.prog 69 #[.slice A n c] w (RetB (.int .i64 (chk l)) w) := by
  obtain ⟨rfl, hcs⟩ := holds_parts hI
  by_cases h0 : l.length = 0
  · have e : chk l = 8 := by unfold chk; rw [if_pos h0]
    rw [e]
    have h0z : ((l.length : Int) == 0) = true := by rw [beq_iff_eq]; omega
    clear e hcs hs h0
    go_enter Try.func69, Try.ntmps69
    go_wp2
    go_ret
    exact ⟨rfl, Below.refl _ _⟩
  by_cases h64 : 64 < l.length
  · have e : chk l = 3 := by unfold chk; rw [if_neg h0, if_pos h64]
    rw [e]
    have h0z : ((l.length : Int) == 0) = false := by rw [beq_eq_false_iff_ne]; omega
    have h64z : (64 : Int) < (l.length : Int) := by omega
    clear e hcs hs h0 h64
    go_enter Try.func69, Try.ntmps69
    go_wp2
    go_ret
    exact ⟨rfl, Below.refl _ _⟩
  have hck := Lib.hid (check_is h0 h64)
  have h0z : ((l.length : Int) == 0) = false := by rw [beq_eq_false_iff_ne]; omega
  have h64z : ¬ (64 : Int) < (l.length : Int) := by omega
  have h64n : l.length ≤ 64 := by omega
  obtain ⟨b, off, rfl, hb, hc⟩ := hcs (by omega)
  have HC := Lib.hid hc; have HI := Lib.hid hI; have HS := Lib.hid hs
  have HNE := Lib.hid h0
  clear hcs hs h0 h64 hc hI
  go_enter Try.func69, Try.ntmps69
  go_wp2_with fail
  go_loopg [3, 4] l.length (fun kx s3 s4 wr => ∃ k : Nat, s4 = .int .i64 k ∧ s3 = .int .i64 (nroot l k) ∧ k ≤ l.length ∧ l.length - k ≤ kx ∧ Hid (scan l k = 0) ∧ Hid (Below w.heap.size w wr))
  case atStart => exact ⟨0, rfl, rfl, by omega, by omega, Lib.hid rfl, Lib.hid (Below.refl _ _)⟩
  case round =>
    obtain ⟨k, rfl, rfl, hk, hkx, HSC, HW⟩ := hrel
    clear h0z h64z
    have hws := HW.out.size
    by_cases hlt : k < l.length
    · have hltz : (k : Int) < (l.length : Int) := by omega
      obtain ⟨x, hx⟩ : ∃ x, l[k]? = some x := ⟨_, List.getElem?_eq_getElem hlt⟩
      have hcw : ∀ (u : World), Below w.heap.size w u → ∀ (i : Nat) (v : Value), x.cells[i]? = some v → u.cell? ⟨b, off + k * 11 + i, none⟩ = some v := fun u hu i v hv => (hu.cell (p := ⟨b, off + k * 11 + i, none⟩) hb).trans (HC.out k x hx i v hv)
      have hcx := hcw wr HW.out
      have c0 : wr.cell? ⟨b, off + k * 11, none⟩ = some (.int .i64 x.id) := hcx 0 _ rfl
      have c1 := hcx 1 _ rfl; have c2 := hcx 2 _ rfl; have c3 := hcx 3 _ rfl; have c4 := hcx 4 _ rfl; have c5 := hcx 5 _ rfl; have c6 := hcx 6 _ rfl; have c7 := hcx 7 _ rfl; have c8 := hcx 8 _ rfl; have c9 := hcx 9 _ rfl; have c10 := hcx 10 _ rfl
      have HX := Lib.hid hx; have HCW := Lib.hid hcw
      have hrt := Lib.hid (fun u => refright_any x (HS.out x (List.mem_of_getElem? hx)) u)
      have hnr := nroot_le l k
      unfold Cls.agg at hrt
      clear hcx hx hcw
      by_cases hr : rightS x = 0
      · have hea := Lib.hid (errAt_is (l := l) HX.out hr)
        rw [hr] at hrt
        have hfl := Lib.hid (find_lt (l := l) HX.out)
        clear hr
        by_cases hf : findC (l.take k) x.id < 0
        · have HE : Hid (errAt l k = 0) := Lib.hid (by rw [hea.out, if_pos hf])
          have hfz : decide (findC l x.id < (k : Int)) = false := decide_eq_false (fun h => hfl.out.1 h hf)
          clear hf
          by_cases hp : x.parent = 0
          · have e1 : (x.parent == 0) = true := by rw [beq_iff_eq]; exact hp
            have HN := Lib.hid (nroot_in HX.out hp)
            clear hp
            generalize nroot l k = nr at *
            go_wp2_with (first
              | (go_at_call 40; refine (hrt.out _).mono ?_; rintro e w1 ⟨rfl, hb1⟩; have HB1 := Lib.hid hb1; have HW1 := Lib.hid (HW.out.trans (hb1.mono hws)); clear hb1; have d0 : w1.cell? ⟨b, off + k * 11, none⟩ = some (.int .i64 x.id) := HCW.out w1 HW1.out 0 _ rfl; have d1 : w1.cell? ⟨b, off + k * 11 + 1, none⟩ = some (.int .i64 x.parent) := HCW.out w1 HW1.out 1 _ rfl)
              | (go_at_call 51; refine (reffind_c _ _ _ _ l x.id (by omega) w1 (HI.out.below HW1.out)).mono ?_; rintro e w2 ⟨rfl, rfl⟩))
            go_roundg (l.length - (k + 1))
            case measure => omega
            case rel => exact ⟨k + 1, by go_num, by rw [HN.out]; go_num, by omega, by omega, Lib.hid (by rw [scan_succ HSC.out, HE.out]), HW1⟩
          · have e1 : (x.parent == 0) = false := by rw [beq_eq_false_iff_ne]; exact hp
            have HN := Lib.hid (nroot_out HX.out hp)
            clear hp
            go_wp2_with (first
              | (go_at_call 40; refine (hrt.out _).mono ?_; rintro e w1 ⟨rfl, hb1⟩; have HB1 := Lib.hid hb1; have HW1 := Lib.hid (HW.out.trans (hb1.mono hws)); clear hb1; have d0 : w1.cell? ⟨b, off + k * 11, none⟩ = some (.int .i64 x.id) := HCW.out w1 HW1.out 0 _ rfl; have d1 : w1.cell? ⟨b, off + k * 11 + 1, none⟩ = some (.int .i64 x.parent) := HCW.out w1 HW1.out 1 _ rfl)
              | (go_at_call 51; refine (reffind_c _ _ _ _ l x.id (by omega) w1 (HI.out.below HW1.out)).mono ?_; rintro e w2 ⟨rfl, rfl⟩))
            go_roundg (l.length - (k + 1))
            case measure => omega
            case rel => exact ⟨k + 1, by go_num, by rw [HN.out], by omega, by omega, Lib.hid (by rw [scan_succ HSC.out, HE.out]), HW1⟩
        · have HE : Hid (errAt l k = 9) := Lib.hid (by rw [hea.out, if_neg hf])
          have hfz : decide (findC l x.id < (k : Int)) = true := decide_eq_true (hfl.out.2 hf)
          clear hf
          go_wp2_with (first
            | (go_at_call 40; refine (hrt.out _).mono ?_; rintro e w1 ⟨rfl, hb1⟩; have HB1 := Lib.hid hb1; have HW1 := Lib.hid (HW.out.trans (hb1.mono hws)); clear hb1; have d0 : w1.cell? ⟨b, off + k * 11, none⟩ = some (.int .i64 x.id) := HCW.out w1 HW1.out 0 _ rfl; have d1 : w1.cell? ⟨b, off + k * 11 + 1, none⟩ = some (.int .i64 x.parent) := HCW.out w1 HW1.out 1 _ rfl)
            | (go_at_call 51; refine (reffind_c _ _ _ _ l x.id (by omega) w1 (HI.out.below HW1.out)).mono ?_; rintro e w2 ⟨rfl, rfl⟩))
          go_ret
          have hsc : scan l l.length = 9 := by rw [scan_hit HSC.out (by rw [HE.out]; decide) l.length hlt, HE.out]
          exact ⟨by rw [chk_scan (by rw [hck.out, hsc]; decide), hck.out, hsc]; rfl, HW1.out⟩
      · have hea := Lib.hid (errAt_bad (l := l) HX.out hr)
        have hrn : (rightS x != 0) = true := by rw [bne_iff_ne]; exact hr
        have hsc : Hid (scan l l.length = rightS x) := Lib.hid (by rw [scan_hit HSC.out (by rw [hea.out]; exact hr) l.length hlt, hea.out])
        have HR := Lib.hid hr
        clear hr
        generalize hrx : rightS x = rx at *
        clear hrx
        go_wp2_with (go_at_call 40; refine (hrt.out _).mono ?_; rintro e w1 ⟨rfl, hb1⟩; have HB1 := Lib.hid hb1; clear hb1)
        go_ret
        exact ⟨by rw [chk_scan (by rw [hck.out, hsc.out]; exact HR.out), hck.out, hsc.out]; rfl, HW.out.trans (HB1.out.mono hws)⟩
    · have hltz : ¬ (k : Int) < (l.length : Int) := by omega
      obtain rfl : k = l.length := by omega
      have hsc := HSC.out
      have G := good_of hsc
      have HG := Lib.hid G
      have hc0 : Hid (checkS l = 0) := Lib.hid (by rw [hck.out]; exact hsc)
      clear hsc G
      by_cases hn1 : nroot l l.length = 1
      · have e1 : (((nroot l l.length : Nat) : Int) != 1) = false := by rw [bne_eq_false_iff_eq]; omega
        have HN1 := Lib.hid hn1
        clear hn1
        go_wp2_with fail
        go_loopg [6] l.length (fun kx s6 wq => ∃ k : Nat, s6 = .int .i64 k ∧ k ≤ l.length ∧ l.length - k ≤ kx ∧ wq = wr ∧ Hid (∀ c ∈ l.take k, c.parent ≠ 0 → c.parent ∈ ids l))
        case atStart => exact ⟨0, rfl, by omega, by omega, rfl, Lib.hid (by simp)⟩
        case round =>
          obtain ⟨k, rfl, hk2, hkx2, rfl, HP⟩ := hrel
          clear e1
          by_cases hlt2 : k < l.length
          · have hltz2 : (k : Int) < (l.length : Int) := by omega
            obtain ⟨x, hx⟩ : ∃ x, l[k]? = some x := ⟨_, List.getElem?_eq_getElem hlt2⟩
            have c1 : wr.cell? ⟨b, off + k * 11 + 1, none⟩ = some (.int .i64 x.parent) := (HW.out.cell (p := ⟨b, off + k * 11 + 1, none⟩) hb).trans (HC.out k x hx 1 _ rfl)
            have HX := Lib.hid hx
            clear hx
            by_cases hp : x.parent = 0
            · have e2 : (x.parent != 0) = false := by rw [bne_eq_false_iff_eq]; exact hp
              have HPP := Lib.hid hp
              clear hp
              go_wp2_with fail
              go_roundg (l.length - (k + 1))
              case measure => omega
              case rel => exact ⟨k + 1, by go_num, by omega, by omega, rfl, Lib.hid (fun c hc h0 => by rcases (take_cls HX.out).1 hc with h | rfl; exact HP.out c h h0; exact absurd HPP.out h0)⟩
            · have e2 : (x.parent != 0) = true := by rw [bne_iff_ne]; exact hp
              have HPP := Lib.hid hp
              clear hp
              by_cases hf : findC l x.parent < 0
              · have hfz : decide (findC l x.parent < 0) = true := decide_eq_true hf
                have HCK := Lib.hid (chk_par hc0.out (bad_parent (List.mem_of_getElem? HX.out) HPP.out (find_neg.1 hf) (rootS l)))
                clear hf
                go_wp2_with (go_at_call 51; refine (reffind_c _ _ _ _ l x.parent (by omega) wr (HI.out.below HW.out)).mono ?_; rintro e w2 ⟨rfl, rfl⟩)
                go_ret
                exact ⟨by rw [HCK.out]; rfl, HW.out⟩
              · have hfz : decide (findC l x.parent < 0) = false := decide_eq_false hf
                have HIN := Lib.hid (Classical.not_not.1 (fun h => hf (find_neg.2 h)))
                clear hf
                go_wp2_with (go_at_call 51; refine (reffind_c _ _ _ _ l x.parent (by omega) wr (HI.out.below HW.out)).mono ?_; rintro e w2 ⟨rfl, rfl⟩)
                go_roundg (l.length - (k + 1))
                case measure => omega
                case rel => exact ⟨k + 1, by go_num, by omega, by omega, rfl, Lib.hid (fun c hc h0 => by rcases (take_cls HX.out).1 hc with h | rfl; exact HP.out c h h0; exact HIN.out)⟩
          · have hltz2 : ¬ (k : Int) < (l.length : Int) := by omega
            obtain rfl : k = l.length := by omega
            have HR := Lib.hid (root_of HG.out HN1.out (by have := HP.out; rwa [List.take_length] at this))
            have hring := Lib.hid (ring_iff HG.out HR.out h64n)
            go_wp2_with fail
            go_loopg [7] l.length (fun kx s7 wq => ∃ k : Nat, s7 = .int .i64 k ∧ k ≤ l.length ∧ l.length - k ≤ kx ∧ wq = wr ∧ Hid (∀ c ∈ l.take k, rise l 65 c.id = 0))
            case atStart => exact ⟨0, rfl, by omega, by omega, rfl, Lib.hid (by simp)⟩
            case round =>
              obtain ⟨k, rfl, hk3, hkx3, rfl, HQ⟩ := hrel
              by_cases hlt3 : k < l.length
              · have hltz3 : (k : Int) < (l.length : Int) := by omega
                obtain ⟨x, hx⟩ : ∃ x, l[k]? = some x := ⟨_, List.getElem?_eq_getElem hlt3⟩
                have c0 : wr.cell? ⟨b, off + k * 11, none⟩ = some (.int .i64 x.id) := (HW.out.cell (p := ⟨b, off + k * 11, none⟩) hb).trans (HC.out k x hx 0 _ rfl)
                have HX := Lib.hid hx
                have hrise := Lib.hid (refrise_c (some ⟨b, off, none⟩) l.length c w.heap.size 65 l (by omega) (by omega) x.id wr (HI.out.below HW.out))
                clear hx
                by_cases hz : rise l 65 x.id = 0
                · have HZ := Lib.hid hz
                  rw [hz] at hrise
                  clear hz
                  go_wp2_with (go_at_call 138; refine (hrise.out).mono ?_; rintro e w2 ⟨rfl, rfl⟩)
                  go_roundg (l.length - (k + 1))
                  case measure => omega
                  case rel => exact ⟨k + 1, by go_num, by omega, by omega, rfl, Lib.hid (fun c hc => by rcases (take_cls HX.out).1 hc with h | rfl; exact HQ.out c h; exact HZ.out)⟩
                · have e3 : (rise l 65 x.id != 0) = true := by rw [bne_iff_ne]; exact hz
                  have HCK := Lib.hid (chk_ring hc0.out HR.out (fun hall => hz (hring.out.2 hall x.id (List.mem_map.2 ⟨x, List.mem_of_getElem? HX.out, rfl⟩))))
                  clear hz
                  generalize rise l 65 x.id = rv at *
                  go_wp2_with (go_at_call 138; refine (hrise.out).mono ?_; rintro e w2 ⟨rfl, rfl⟩)
                  go_ret
                  exact ⟨by rw [HCK.out]; rfl, HW.out⟩
              · have hltz3 : ¬ (k : Int) < (l.length : Int) := by omega
                obtain rfl : k = l.length := by omega
                have hall := hring.out.1 (fun i hi => by
                  obtain ⟨c, hc, rfl⟩ := List.mem_map.1 hi
                  exact HQ.out c (by rw [List.take_length]; exact hc))
                have HALL := Lib.hid hall
                have hlv := Lib.hid (reflevel_c (some ⟨b, off, none⟩) c l h64n 64 (rootS l) (Nat.le_refl _) (root_deep64 HG.out HR.out h64n) (root_mem HR.out) wr ((HI.out.below HW.out).up hws))
                have hrt := Lib.hid (refroot_c (some ⟨b, off, none⟩) l.length c w.heap.size l hlen wr (HI.out.below HW.out))
                obtain ⟨lv, hlvv⟩ : ∃ lv, lv = level l (rootS l) := ⟨_, rfl⟩
                rw [← hlvv] at hlv
                have HLV := Lib.hid hlvv
                unfold RetB at hlv
                clear hall hlvv
                by_cases h8 : 8 < lv
                · have HCK := Lib.hid (chk_deep hc0.out HR.out HALL.out (by rw [← HLV.out]; exact h8))
                  go_wp2_with (first
                    | (go_at_call 72; refine (hrt.out).mono ?_; rintro e w2 ⟨rfl, rfl⟩)
                    | (go_at_call 82; refine (hlv.out).mono ?_; rintro e w2 ⟨rfl, hb2⟩; have HB2 := Lib.hid hb2; clear hb2))
                  go_ret
                  exact ⟨by rw [HCK.out]; rfl, HW.out.trans (HB2.out.mono hws)⟩
                · have HCK := Lib.hid (chk_fine hc0.out HR.out HALL.out (by rw [← HLV.out]; exact h8))
                  go_wp2_with (first
                    | (go_at_call 72; refine (hrt.out).mono ?_; rintro e w2 ⟨rfl, rfl⟩)
                    | (go_at_call 82; refine (hlv.out).mono ?_; rintro e w2 ⟨rfl, hb2⟩; have HB2 := Lib.hid hb2; clear hb2))
                  go_ret
                  exact ⟨by rw [HCK.out]; rfl, HW.out.trans (HB2.out.mono hws)⟩
      · have e1 : (((nroot l l.length : Nat) : Int) != 1) = true := by rw [bne_iff_ne]; omega
        have HCK := Lib.hid (chk_par hc0.out (fun R => hn1 (nroot_one HG.out R)))
        clear hn1
        go_wp2_with fail
        go_ret
        exact ⟨by rw [HCK.out]; rfl, HW.out⟩
end Go.Proofs.Ytdoemgccmjddcaa.Tr
