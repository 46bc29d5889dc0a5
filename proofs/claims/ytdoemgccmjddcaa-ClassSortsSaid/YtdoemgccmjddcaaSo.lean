/- Lists in the order of a key, equals in their places: two that are sorted and hold, for each key, the same elements in the same order, are one list. Merging two runs by one rotation and two smaller merges. -/
import Derived.Lib.Hide
namespace Go.Proofs.Ytdoemgccmjddcaa.So
variable {α : Type} {key : α → Int}

/-- the same elements, those of one key in their order -/
structure Ren (key : α → Int) (l m : List α) : Prop where
  len : l.length = m.length
  flt : ∀ k, l.filter (fun x => key x == k) = m.filter (fun x => key x == k)
def Srt (key : α → Int) (l : List α) : Prop := l.Pairwise (fun a b => key a ≤ key b)

theorem Ren.refl (l : List α) : Ren key l l := ⟨rfl, fun _ => rfl⟩
theorem Ren.symm {l m : List α} (h : Ren key l m) : Ren key m l := ⟨h.len.symm, fun k => (h.flt k).symm⟩
theorem Ren.trans {l m n : List α} (h : Ren key l m) (h' : Ren key m n) : Ren key l n := ⟨h.len.trans h'.len, fun k => (h.flt k).trans (h'.flt k)⟩
theorem Ren.append {a b c d : List α} (h : Ren key a b) (h' : Ren key c d) : Ren key (a ++ c) (b ++ d) :=
  ⟨by rw [List.length_append, List.length_append, h.len, h'.len], fun k => by rw [List.filter_append, List.filter_append, h.flt k, h'.flt k]⟩
theorem Ren.mem {l m : List α} (h : Ren key l m) {x : α} (hx : x ∈ l) : x ∈ m := by
  have h1 : x ∈ l.filter (fun y => key y == key x) := List.mem_filter.2 ⟨hx, by simp⟩
  rw [h.flt (key x)] at h1
  exact (List.mem_filter.1 h1).1
theorem Ren.rotate {u v : List α} (h : ∀ a ∈ u, ∀ b ∈ v, key a ≠ key b) : Ren key (u ++ v) (v ++ u) := by
  refine ⟨by simp [Nat.add_comm], fun k => ?_⟩
  rw [List.filter_append, List.filter_append]
  by_cases hu : ∃ a ∈ u, key a = k
  · obtain ⟨a, ha, rfl⟩ := hu
    have : v.filter (fun x => key x == key a) = [] := List.filter_eq_nil_iff.2 fun b hb => by
      have := h a ha b hb
      simp; exact fun e => this e.symm
    rw [this]; simp
  · have : u.filter (fun x => key x == k) = [] := List.filter_eq_nil_iff.2 fun a ha => by
      simp; exact fun e => hu ⟨a, ha, e⟩
    rw [this]; simp

theorem Srt.append {u v : List α} (hu : Srt key u) (hv : Srt key v) (h : ∀ a ∈ u, ∀ b ∈ v, key a ≤ key b) : Srt key (u ++ v) := List.pairwise_append.2 ⟨hu, hv, h⟩
theorem Srt.left {u v : List α} (h : Srt key (u ++ v)) : Srt key u := (List.pairwise_append.1 h).1
theorem Srt.right {u v : List α} (h : Srt key (u ++ v)) : Srt key v := (List.pairwise_append.1 h).2.1
theorem Srt.cross {u v : List α} (h : Srt key (u ++ v)) : ∀ a ∈ u, ∀ b ∈ v, key a ≤ key b := (List.pairwise_append.1 h).2.2
theorem Srt.one (x : α) : Srt key [x] := List.pairwise_singleton ..
theorem Srt.nil : Srt key ([] : List α) := List.Pairwise.nil

/-- THE ONLY ONE -/
theorem uniq : ∀ {l m : List α}, Srt key l → Srt key m → Ren key l m → l = m
  | [], m, _, _, h => by
    have := h.len
    exact (List.eq_nil_of_length_eq_zero this.symm).symm
  | x :: t, [], _, _, h => by have := h.len; simp at this
  | x :: t, y :: s, hl, hm, h => by
    have hx : key x ≤ key y := by
      have := h.symm.mem (x := y) (List.mem_cons_self ..)
      rcases List.mem_cons.1 this with e | e
      · rw [e]; exact Int.le_refl _
      · exact (List.pairwise_cons.1 hl).1 y e
    have hy : key y ≤ key x := by
      have := h.mem (x := x) (List.mem_cons_self ..)
      rcases List.mem_cons.1 this with e | e
      · rw [e]; exact Int.le_refl _
      · exact (List.pairwise_cons.1 hm).1 x e
    have hk : key y = key x := by omega
    have hf := h.flt (key x)
    rw [List.filter_cons_of_pos (by simp), List.filter_cons_of_pos (by simp [hk])] at hf
    injection hf with h1 h2
    subst h1
    have : t = s := uniq (List.pairwise_cons.1 hl).2 (List.pairwise_cons.1 hm).2 ⟨by simpa using h.len, fun k => by
      by_cases e : key x = k
      · subst e; exact h2
      · have h3 := h.flt k
        rwa [List.filter_cons_of_neg (by simp [e]), List.filter_cons_of_neg (by simp [e])] at h3⟩
    rw [this]

/-- one more, behind all that are not greater -/
theorem ins_ok {u v : List α} {x : α} (hs : Srt key (u ++ v)) (hu : ∀ a ∈ u, key a ≤ key x) (hv : ∀ b ∈ v, key x < key b) : Srt key (u ++ x :: v) ∧ Ren key (u ++ v ++ [x]) (u ++ x :: v) := by
  refine ⟨?_, ?_⟩
  · refine Srt.append hs.left (List.pairwise_cons.2 ⟨fun b hb => Int.le_of_lt (hv b hb), hs.right⟩) fun a ha b hb => ?_
    rcases List.mem_cons.1 hb with e | e
    · subst e; exact hu a ha
    · exact hs.cross a ha b e
  · rw [List.append_assoc]
    have := Ren.rotate (key := key) (u := v) (v := [x]) (fun a ha b hb => by rw [List.mem_singleton.1 hb]; have := hv a ha; omega)
    exact (Ren.refl u).append this

/-- MERGING: A = A1 ++ A2 and B = B1 ++ B2, cut so that what comes first is not greater -/
theorem merge_cut {A1 A2 B1 B2 C D : List α} (hA : Srt key (A1 ++ A2)) (hB : Srt key (B1 ++ B2)) (h12 : ∀ a ∈ A1, ∀ b ∈ B2, key a ≤ key b) (h21 : ∀ b ∈ B1, ∀ a ∈ A2, key b < key a)
    (hC : Srt key C) (hD : Srt key D) (rC : Ren key (A1 ++ B1) C) (rD : Ren key (A2 ++ B2) D) : Srt key (C ++ D) ∧ Ren key ((A1 ++ A2) ++ (B1 ++ B2)) (C ++ D) := by
  refine ⟨hC.append hD fun a ha b hb => ?_, ?_⟩
  · have ha' := List.mem_append.1 (rC.symm.mem ha)
    have hb' := List.mem_append.1 (rD.symm.mem hb)
    rcases ha' with ha' | ha' <;> rcases hb' with hb' | hb'
    · exact hA.cross a ha' b hb'
    · exact h12 a ha' b hb'
    · exact Int.le_of_lt (h21 a ha' b hb')
    · exact hB.cross a ha' b hb'
  · have hr := Ren.rotate (key := key) (u := A2) (v := B1) (fun a ha b hb => by have := h21 b hb a ha; omega)
    have h1 : Ren key (A1 ++ (A2 ++ B1) ++ B2) (A1 ++ (B1 ++ A2) ++ B2) := ((Ren.refl A1).append hr).append (Ren.refl B2)
    have e1 : (A1 ++ A2) ++ (B1 ++ B2) = A1 ++ (A2 ++ B1) ++ B2 := by simp
    have e2 : A1 ++ (B1 ++ A2) ++ B2 = (A1 ++ B1) ++ (A2 ++ B2) := by simp
    rw [e1]
    exact h1.trans (e2 ▸ rC.append rD)
end Go.Proofs.Ytdoemgccmjddcaa.So
