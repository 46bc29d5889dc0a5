/- The reference's Rise, Level. -/
import Derived.Test.YtdoemgccmjddcaaRf2
namespace Go.Proofs.Ytdoemgccmjddcaa.Tr
open Go.RowKit Go.Maps Go.Proofs.Ytdoemgccmjddcaa.Wd Go.Proofs.Ytdoemgccmjddcaa.Li Go.Proofs.Ytdoemgccmjddcaa.Mp Go.Proofs.Ytdoemgccmjddcaa.Tp Go.Proofs.Ytdoemgccmjddcaa.Cl Go.Proofs.Ytdoemgccmjddcaa.So Go.Proofs.Ytdoemgccmjddcaa.Sw
attribute [local go_sem] run_store_float

theorem rise_none {l : List Cls} {id : Int} (h : at? l id = none) (n : Nat) : rise l (n + 1) id = 0 := by rw [rise_succ, h]
theorem rise_some {l : List Cls} {id : Int} {c : Cls} (h : at? l id = some c) (n : Nat) : rise l (n + 1) id = rise l n c.parent := by rw [rise_succ, h]
set_option maxRecDepth 20000 in
set_option maxHeartbeats 1000000 in
theorem refrise_c (A : Option Addr) (len cap N m : Nat) (l : List Cls) (hlen : l.length ≤ 1000000) (hm : m ≤ 1000000) (id : Int) (w : World) (hI : Holds N w (.slice A len cap) l) :
    Calls Try.prog 138 #[.slice A len cap, .int .i64 id, .int .i64 (m : Int)] w fun e w' => e = .returned (.int .i64 (rise l m id)) ∧ w = w' := by
  obtain ⟨rfl, hcs⟩ := holds_parts hI
  have HCS := Lib.hid hcs
  have hfind := Lib.hid (fun i => reffind_c A l.length cap N l i (by omega) w hI)
  clear hcs hI
  go_enter Try.func138, Try.ntmps138
  go_wp2_with fail
  go_loopg [1, 7] m (fun kx s1 s7 wr => ∃ (k : Nat) (cur : Int), s7 = .int .i64 k ∧ s1 = .int .i64 cur ∧ k ≤ m ∧ m - k ≤ kx ∧ wr = w ∧ Hid (rise l m id = rise l (m - k) cur))
  case atStart => exact ⟨0, id, rfl, rfl, by omega, by omega, rfl, Lib.hid rfl⟩
  case round =>
    obtain ⟨k, cur, rfl, rfl, hk, hkx, rfl, HR⟩ := hrel
    by_cases hlt : k < m
    · have hltz : (k : Int) < (m : Int) := by omega
      obtain ⟨p, hp⟩ : ∃ p, m - k = p + 1 := ⟨m - k - 1, by omega⟩
      have hp' : m - (k + 1) = p := by omega
      rcases find_at (zs := l) (id := cur) with ⟨hf, ha⟩ | ⟨i, c, hf, hc, ha⟩
      · have hfz : decide (findC l cur < 0) = true := decide_eq_true hf
        have HZ : Hid (rise l m id = 0) := Lib.hid (by rw [HR.out, hp, rise_none ha])
        clear hf ha hp hp'
        go_wp2_with (go_at_call 51; refine (hfind.out _).mono ?_; rintro e w2 ⟨rfl, rfl⟩)
        go_ret
        exact ⟨by rw [HZ.out]; rfl, rfl⟩
      · have hil := (List.getElem?_eq_some_iff.1 hc).1
        obtain ⟨b, off, rfl, hb, hcc⟩ := HCS.out (by omega)
        have c1' := hcc i c hc 1 _ rfl
        have HZ : Hid (rise l m id = rise l (m - (k + 1)) c.parent) := Lib.hid (by rw [HR.out, hp, hp', rise_some ha])
        have hfi := Lib.hid (hfind.out cur)
        rw [hf] at hfi
        have hilz : (i : Int) < (l.length : Int) := by omega
        clear hf ha hp hp' hcc hc
        go_wp2_with (go_at_call 51; refine (hfi.out).mono ?_; rintro e w2 ⟨rfl, rfl⟩)
        go_roundg (m - (k + 1))
        case measure => omega
        case rel => exact ⟨k + 1, c.parent, by go_num, rfl, by omega, by omega, rfl, HZ⟩
    · have hltz : ¬ (k : Int) < (m : Int) := by omega
      obtain rfl : k = m := by omega
      have HZ : Hid (rise l k id = cur) := Lib.hid (by rw [HR.out, Nat.sub_self]; rfl)
      go_wp2
      go_ret
      exact ⟨by rw [HZ.out]; rfl, rfl⟩

def RetB (v : Value) (w : World) (e : Ending) (w' : World) : Prop := e = .returned v ∧ Below w.heap.size w w'
set_option maxRecDepth 20000 in
theorem reflevel_none (A : Option Addr) (len cap : Nat) (l : List Cls) (hlen : l.length ≤ 1000000) (id : Int) (hid : id ∉ ids l) (w : World) (hI : Holds w.heap.size w (.slice A len cap) l) :
    Calls Try.prog 82 #[.slice A len cap, .int .i64 id] w (RetB (.int .i64 0) w) := by
  have hfind := Lib.hid (reffind_c A len cap w.heap.size l id (by omega) w hI)
  have hfz : decide (findC l id < 0) = true := decide_eq_true (find_neg.2 hid)
  clear hI
  go_enter Try.func82, Try.ntmps82
  go_wp2_with (go_at_call 51; refine (hfind.out).mono ?_; rintro e w2 ⟨rfl, rfl⟩)
  go_ret
  exact ⟨rfl, Below.refl _ _⟩
set_option maxRecDepth 20000 in
set_option maxHeartbeats 2000000 in
theorem reflevel_c (A : Option Addr) (cap : Nat) (l : List Cls) (hlen : l.length ≤ 64) : ∀ (d : Nat) (id : Int), d ≤ 64 → Deep l d id → id ∈ ids l → ∀ (w : World), Holds w.heap.size w (.slice A l.length cap) l →
    Calls Try.prog 82 #[.slice A l.length cap, .int .i64 id] w (RetB (.int .i64 (level l id)) w) := by
  intro d
  induction d with
  | zero => intro id _ h; exact h.elim
  | succ d ih =>
    intro id hd hD hid w hI
    have hfind := Lib.hid (reffind_c A l.length cap w.heap.size l id (by omega) w hI)
    have hfz : decide (findC l id < 0) = false := decide_eq_false (fun h => find_neg.1 h hid)
    have hch := Lib.hid (refchildren_c A l.length cap l id (by omega) w hI)
    have hlev := Lib.hid (level_eq (l := l) (d := d) (by omega) hD)
    have hklen := kids_len l id
    have HIH := Lib.hid ih; have HD := Lib.hid hD; have HI := Lib.hid hI
    clear ih hD hid hI
    go_enter Try.func82, Try.ntmps82
    go_wp2_with (first
      | (go_at_call 51; refine (hfind.out).mono ?_; rintro e w2 ⟨rfl, rfl⟩)
      | (go_at_call 79; refine (hch.out).mono ?_; rintro e w1 ⟨A1, c1, rfl, hs1, hb1⟩; have HS1 := Lib.hid hs1; have HB1 := Lib.hid hb1; clear hs1 hb1))
    have hws := HB1.out.size
    go_loopg [5, 7] (kids l id).length (fun kx s5 s7 wr => ∃ j : Nat, s7 = .int .i64 j ∧ s5 = .int .i64 (most l ((kids l id).take j)) ∧ j ≤ (kids l id).length ∧ (kids l id).length - j ≤ kx ∧ Hid (Below w1.heap.size w1 wr))
    case atStart => exact ⟨0, rfl, rfl, by omega, by omega, Lib.hid (Below.refl _ _)⟩
    case round =>
      obtain ⟨j, rfl, rfl, hj, hjx, HW⟩ := hrel
      have hwz := HW.out.size
      by_cases hlt : j < (kids l id).length
      · have hltz : (j : Int) < ((kids l id).length : Int) := by omega
        obtain ⟨k, hk⟩ : ∃ k, (kids l id)[j]? = some k := ⟨_, List.getElem?_eq_getElem hlt⟩
        obtain ⟨a, u, rfl, hab, hu, hc⟩ := (HS1.out.below HW.out).cell1 (k := j) hlt
        unfold St.I at hu
        simp only [List.getElem?_map] at hu
        obtain ⟨x, hx0, rfl⟩ := Option.map_eq_some_iff.1 hu
        rw [hk] at hx0
        obtain rfl : k = x := by injection hx0
        have hkm : k ∈ kids l id := List.mem_of_getElem? hk
        have hms := Lib.hid (most_succ (l := l) hk)
        have hmb := most_bd (l := l) ((kids l id).take j)
        have hlb := level_bd (l := l) k
        have hcall := HIH.out k (by omega) (HD.out k hkm) (kids_ids hkm) wr ((HI.out.below (HB1.out.trans (HW.out.mono hws))).up (by omega))
        have HC := Lib.hid hcall
        clear hcall hk hkm hu hx0
        generalize most l ((kids l id).take j) = mx at *
        generalize level l k = lv at *
        unfold RetB at HC
        go_wp2_with (go_at_call 82; refine (HC.out).mono ?_; rintro e w2 ⟨rfl, hb2⟩; have HB2 := Lib.hid hb2; clear hb2)
        all_goals
          go_roundg ((kids l id).length - (j + 1))
          case measure => omega
          case rel => exact ⟨j + 1, by go_num, by rw [hms.out], by omega, by omega, Lib.hid (HW.out.trans (HB2.out.mono hwz))⟩
      · have hltz : ¬ (j : Int) < ((kids l id).length : Int) := by omega
        obtain rfl : j = (kids l id).length := by omega
        rw [List.take_length]
        have hmb := most_bd (l := l) (kids l id)
        go_wp2
        go_ret
        exact ⟨by rw [hlev.out]; rfl, HB1.out.trans (HW.out.mono hws)⟩
end Go.Proofs.Ytdoemgccmjddcaa.Tr
