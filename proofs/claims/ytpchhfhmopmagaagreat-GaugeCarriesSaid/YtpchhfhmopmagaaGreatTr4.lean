/- parents. -/
import Derived.Test.YtpchhfhmopmagaaGreatTr3
set_option linter.unusedVariables false
set_option linter.unusedSimpArgs false
namespace Go.Proofs.YtpchhfhmopmagaaGreat.Tr
open Go.RowKit Go.Maps Go.Proofs.YtpchhfhmopmagaaGreat.Wd Go.Proofs.YtpchhfhmopmagaaGreat.Li Go.Proofs.YtpchhfhmopmagaaGreat.Mp Go.Proofs.YtpchhfhmopmagaaGreat.Tp Go.Proofs.YtpchhfhmopmagaaGreat.Cl Go.Proofs.YtpchhfhmopmagaaGreat.So
attribute [local go_sem] run_store_float

/-- what is known of the first k classes' parents; the root among them, or 0 -/
def Pre (l : List Cls) (k : Nat) (ρ : Int) : Prop := (∀ c ∈ l.take k, c.parent ≠ 0 → c.parent ∈ ids l) ∧ ((ρ = 0 ∧ ∀ c ∈ l.take k, c.parent ≠ 0) ∨ (1 ≤ ρ ∧ (∃ c ∈ l.take k, c.id = ρ ∧ c.parent = 0) ∧ ∀ d ∈ l.take k, d.parent = 0 → d.id = ρ))
variable {l : List Cls}
theorem take_cls {k : Nat} {x c : Cls} (h : l[k]? = some x) : c ∈ l.take (k + 1) ↔ c ∈ l.take k ∨ c = x := by rw [List.take_add_one, h]; simp
theorem pre_zero : Pre l 0 0 := ⟨by simp, .inl ⟨rfl, by simp⟩⟩
theorem pre_more {k : Nat} {x : Cls} {ρ : Int} (hx : l[k]? = some x) (h : Pre l k ρ) (hp : x.parent ≠ 0) (hi : x.parent ∈ ids l) : Pre l (k + 1) ρ := by
  refine ⟨fun c hc h0 => ?_, ?_⟩
  · rcases (take_cls hx).1 hc with hc | rfl
    · exact h.1 c hc h0
    · exact hi
  · rcases h.2 with ⟨h1, h2⟩ | ⟨h1, ⟨c, hc, he⟩, h3⟩
    · refine .inl ⟨h1, fun c hc => ?_⟩
      rcases (take_cls hx).1 hc with hc | rfl
      · exact h2 c hc
      · exact hp
    · refine .inr ⟨h1, ⟨c, (take_cls hx).2 (.inl hc), he⟩, fun d hd h0 => ?_⟩
      rcases (take_cls hx).1 hd with hd | rfl
      · exact h3 d hd h0
      · exact absurd h0 hp
theorem pre_root (G : Tp.Good l) {k : Nat} {x : Cls} (hx : l[k]? = some x) (h : Pre l k 0) (hp : x.parent = 0) : Pre l (k + 1) x.id := by
  have hn : ∀ c ∈ l.take k, c.parent ≠ 0 := by
    rcases h.2 with ⟨_, h2⟩ | ⟨h1, _⟩
    · exact h2
    · omega
  refine ⟨fun c hc h0 => ?_, .inr ⟨(G.pos x (List.mem_of_getElem? hx)).1, ⟨x, (take_cls hx).2 (.inr rfl), rfl, hp⟩, fun d hd h0 => ?_⟩⟩
  · rcases (take_cls hx).1 hc with hc | rfl
    · exact h.1 c hc h0
    · exact absurd hp h0
  · rcases (take_cls hx).1 hd with hd | rfl
    · exact absurd h0 (hn d hd)
    · rfl
theorem bad_parent {x : Cls} (hx : x ∈ l) (hp : x.parent ≠ 0) (hn : x.parent ∉ ids l) (r : Int) : ¬ Tp.Root l r := fun R => hn (R.par x hx hp)
theorem bad_two (G : Tp.Good l) {k : Nat} {x : Cls} {ρ : Int} (hx : l[k]? = some x) (h : Pre l k ρ) (hρ : ρ ≠ 0) (hp : x.parent = 0) (r : Int) : ¬ Tp.Root l r := fun R => by
  rcases h.2 with ⟨h1, _⟩ | ⟨_, ⟨c, hc, _, h0⟩, _⟩
  · exact hρ h1
  · have e1 := R.one c (List.mem_of_mem_take hc) h0
    have e2 := R.one x (List.mem_of_getElem? hx) hp
    obtain ⟨j, hj⟩ := List.mem_iff_getElem?.1 hc
    have hjl := (List.getElem?_eq_some_iff.1 hj).1
    rw [List.length_take] at hjl
    have hj' : l[j]? = some c := by rwa [List.getElem?_take_of_lt (by omega)] at hj
    have h3 := List.pairwise_iff_getElem.1 G.nodup j k (by unfold ids; rw [List.length_map]; omega) (by unfold ids; rw [List.length_map]; exact (List.getElem?_eq_some_iff.1 hx).1) (by omega)
    unfold ids at h3
    rw [List.getElem_map, List.getElem_map] at h3
    obtain ⟨_, ej⟩ := List.getElem?_eq_some_iff.1 hj'
    obtain ⟨_, ek⟩ := List.getElem?_eq_some_iff.1 hx
    rw [ej, ek] at h3
    exact h3 (e1.trans e2.symm)
theorem pre_none (h : Pre l l.length 0) (r : Int) : ¬ Tp.Root l r := fun R => by
  rw [Pre, List.take_length] at h
  obtain ⟨c, hc, _, hp⟩ := R.root
  rcases h.2 with ⟨_, h2⟩ | ⟨h1, _⟩
  · exact h2 c hc hp
  · omega
theorem pre_some {ρ : Int} (h : Pre l l.length ρ) (hρ : ρ ≠ 0) : Tp.Root l ρ := by
  rw [Pre, List.take_length] at h
  rcases h.2 with ⟨h1, _⟩ | ⟨_, ⟨c, hc, he, hp⟩, h3⟩
  · exact absurd h1 hρ
  · exact ⟨⟨c, hc, he, hp⟩, h3, h.1⟩
def ParOk (l : List Cls) (w : World) (e : Ending) (w' : World) : Prop := ((Tp.Root l (rootS l) ∧ e = .returned (.tuple #[.int .i64 (rootS l), .int .i64 0])) ∨ (¬ Tp.Root l (rootS l) ∧ e = .returned (.tuple #[.int .i64 0, .int .i64 10]))) ∧ Below w.heap.size w w'

set_option maxRecDepth 20000 in
set_option maxHeartbeats 4000000 in
theorem parents_c (A : Option Addr) (n c : Nat) (l : List Cls) (G : Tp.Good l) (hlen : l.length ≤ 1048576) (w : World) (hI : Holds w.heap.size w (.slice A n c) l) :
    Calls Tryz.prog 128 #[.slice A n c] w (ParOk l w) := by
  obtain ⟨rfl, hcs⟩ := holds_parts hI
  have HCS := Lib.hid hcs; have HI := Lib.hid hI; have HG := Lib.hid G
  clear hcs hI G
  go_enter Tryz.func128, Tryz.ntmps128
  go_wp2_with fail
  go_loopg [4, 9] l.length (fun kx s4 s9 wr => ∃ (k : Nat) (ρ : Int), s9 = .int .i64 k ∧ s4 = .int .i64 ρ ∧ k ≤ l.length ∧ l.length - k ≤ kx ∧ Hid (Pre l k ρ) ∧ Hid (Below w.heap.size w wr))
  case atStart => exact ⟨0, 0, rfl, rfl, by omega, by omega, Lib.hid pre_zero, Lib.hid (Below.refl _ _)⟩
  case round =>
    obtain ⟨k, ρ, rfl, rfl, hk, hkx, HP, HW⟩ := hrel
    by_cases hlt : k < l.length
    · have hltz : (k : Int) < (l.length : Int) := by omega
      obtain ⟨b, off, rfl, hb, hc⟩ := HCS.out (by omega)
      obtain ⟨x, hx⟩ : ∃ x, l[k]? = some x := ⟨_, List.getElem?_eq_getElem hlt⟩
      have hcx : ∀ (i : Nat) (v : Value), x.cells[i]? = some v → wr.cell? ⟨b, off + k * 11 + i, none⟩ = some v := fun i v hv => (HW.out.cell (p := ⟨b, off + k * 11 + i, none⟩) hb).trans (hc k x hx i v hv)
      have c0 : wr.cell? ⟨b, off + k * 11, none⟩ = some (.int .i64 x.id) := hcx 0 _ rfl
      have c1 := hcx 1 _ rfl; have c2 := hcx 2 _ rfl; have c3 := hcx 3 _ rfl; have c4 := hcx 4 _ rfl; have c5 := hcx 5 _ rfl; have c6 := hcx 6 _ rfl; have c7 := hcx 7 _ rfl; have c8 := hcx 8 _ rfl; have c9 := hcx 9 _ rfl; have c10 := hcx 10 _ rfl
      have hws := HW.out.size
      have HX := Lib.hid hx
      have HB1 : Hid (Below w.heap.size w (wr.alloc (.cells #[.int .i64 x.id, .int .i64 x.parent, .float .f64 x.share, .int .i64 x.prio, .int .i64 x.quantum, .int .i64 x.limit, .int .i64 x.weight, .int .i64 x.minIdle, .int .i64 x.maxIdle, .bool x.bounded, .bool x.isolated] 84))) := Lib.hid (HW.out.alloc hws _)
      have hfind := Lib.hid (fun u (hu : Below w.heap.size w u) => find_c (some ⟨b, off, none⟩) l.length c l x.parent hlen u (HI.out.below hu |>.up hu.size))
      clear hcx hx hc
      by_cases hp : x.parent = 0
      · have e1 : (x.parent == 0) = true := by rw [beq_iff_eq]; exact hp
        have e1n : (x.parent != 0) = false := by rw [bne_eq_false_iff_eq]; exact hp
        have HPP := Lib.hid hp
        clear hp
        by_cases hρ : ρ = 0
        · subst hρ
          have hpr := Lib.hid (pre_root HG.out HX.out HP.out HPP.out)
          go_wp2
          go_roundg (l.length - (k + 1))
          case measure => omega
          case rel => exact ⟨k + 1, x.id, by go_num, rfl, by omega, by omega, hpr, HB1⟩
        · have e0 : (ρ != 0) = true := by rw [bne_iff_ne]; exact hρ
          have e0' : (ρ == 0) = false := by rw [beq_eq_false_iff_ne]; exact hρ
          have hbt := Lib.hid (bad_two HG.out HX.out HP.out hρ HPP.out (rootS l))
          clear hρ
          go_wp2
          go_ret2
          exact ⟨.inr ⟨hbt.out, rfl⟩, HB1.out⟩
      · have e1 : (x.parent == 0) = false := by rw [beq_eq_false_iff_ne]; exact hp
        have e1n : (x.parent != 0) = true := by rw [bne_iff_ne]; exact hp
        have HPP := Lib.hid hp
        clear hp
        by_cases hf : findC l x.parent < 0
        · have hfz : decide (findC l x.parent < 0) = true := decide_eq_true hf
          have hbp := Lib.hid (bad_parent (List.mem_of_getElem? HX.out) HPP.out (find_neg.1 hf) (rootS l))
          clear hf
          go_wp2_with (go_at_call 199; refine (hfind.out _ HB1.out).mono ?_; rintro e w2 ⟨rfl, hb2⟩; have HB2 := Lib.hid hb2; clear hb2)
          go_ret2
          exact ⟨.inr ⟨hbp.out, rfl⟩, HB1.out.trans (HB2.out.mono (by simp; omega))⟩
        · have hfz : decide (findC l x.parent < 0) = false := decide_eq_false hf
          have hin := Classical.not_not.1 (fun h => hf (find_neg.2 h))
          have hpm := Lib.hid (pre_more HX.out HP.out HPP.out hin)
          clear hf hin
          go_wp2_with (go_at_call 199; refine (hfind.out _ HB1.out).mono ?_; rintro e w2 ⟨rfl, hb2⟩; have HB2 := Lib.hid hb2; clear hb2; have d0 : w2.cell? ⟨wr.heap.size, 0, none⟩ = some (.int .i64 x.id) := (HB2.out.cell (p := ⟨wr.heap.size, 0, none⟩) (by simp)).trans (new_cls wr x 0 _ rfl); have d1 : w2.cell? ⟨wr.heap.size, 1, none⟩ = some (.int .i64 x.parent) := (HB2.out.cell (p := ⟨wr.heap.size, 1, none⟩) (by simp)).trans (new_cls wr x 1 _ rfl))
          go_roundg (l.length - (k + 1))
          case measure => omega
          case rel => exact ⟨k + 1, ρ, by go_num, rfl, by omega, by omega, hpm, Lib.hid (HB1.out.trans (HB2.out.mono (by simp; omega)))⟩
    · have hltz : ¬ (k : Int) < (l.length : Int) := by omega
      obtain rfl : k = l.length := by omega
      by_cases hρ : ρ = 0
      · subst hρ
        go_wp2
        go_ret2
        exact ⟨.inr ⟨pre_none HP.out _, rfl⟩, HW.out⟩
      · have hr := pre_some HP.out hρ
        have e0 : (ρ == 0) = false := by rw [beq_eq_false_iff_ne]; exact hρ
        have HR := Lib.hid hr
        have HRS := Lib.hid (root_is hr)
        clear hr hρ
        go_wp2
        go_ret2
        exact ⟨.inl ⟨by rw [HRS.out]; exact HR.out, by rw [HRS.out]; rfl⟩, HW.out⟩
end Go.Proofs.YtpchhfhmopmagaaGreat.Tr
