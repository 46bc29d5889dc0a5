/- Class hierarchies, told plainly: children, the way up, levels. -/
import Derived.Test.YtdoemgccmjddcaaSsM
namespace Go.Proofs.Ytdoemgccmjddcaa.Tp
open Go.Proofs.Ytdoemgccmjddcaa.Cl Go.Proofs.Ytdoemgccmjddcaa.So

theorem ren_mem {l m : List Cls} (h : Ren Cls.id l m) (c : Cls) : c ∈ l ↔ c ∈ m := ⟨fun k => h.mem k, fun k => h.symm.mem k⟩
theorem sort_mem {l : List Cls} {c : Cls} : c ∈ sortC l ↔ c ∈ l := (ren_mem (sortC_ok l).2 c).symm

def ids (l : List Cls) : List Int := l.map Cls.id
/-- the class of an id -/
def at? (l : List Cls) (id : Int) : Option Cls := l.find? (fun c => c.id == id)
/-- the ids of a class's children, rising -/
def kids (l : List Cls) (id : Int) : List Int := ((sortC l).filter (fun c => decide (c.parent = id ∧ id ≠ 0))).map Cls.id
/-- so many steps up -/
def rise (l : List Cls) : Nat → Int → Int
  | 0, id => id
  | n + 1, id => match at? l id with
    | none => 0
    | some c => rise l n c.parent
def lev (l : List Cls) : Nat → Int → Int
  | 0, _ => 0
  | d + 1, id => (kids l id).foldl (fun n c => max n (lev l d c)) 0 + 1
/-- all below -/
def desc (l : List Cls) : Nat → Int → List Int
  | 0, _ => []
  | d + 1, id => id :: (kids l id).flatMap (desc l d)
/-- no way down is longer -/
def Deep (l : List Cls) : Nat → Int → Prop
  | 0, _ => False
  | d + 1, id => ∀ c ∈ kids l id, Deep l d c
/-- classes that are right, each of an id of its own -/
structure Good (l : List Cls) : Prop where
  pos : ∀ c ∈ l, 1 ≤ c.id ∧ c.id ≤ 65535 ∧ 0 ≤ c.parent ∧ c.parent ≤ 65535
  nodup : (ids l).Nodup
/-- one root, and each other class is below one that is there -/
structure Root (l : List Cls) (r : Int) : Prop where
  root : ∃ c ∈ l, c.id = r ∧ c.parent = 0
  one : ∀ c ∈ l, c.parent = 0 → c.id = r
  par : ∀ c ∈ l, c.parent ≠ 0 → c.parent ∈ ids l

variable {l : List Cls}
theorem at_mem {id : Int} {c : Cls} (h : at? l id = some c) : c ∈ l ∧ c.id = id := ⟨List.mem_of_find?_eq_some h, by have := List.find?_some h; simpa using this⟩
theorem at_none {id : Int} : at? l id = none ↔ id ∉ ids l := by
  unfold at? ids
  rw [List.find?_eq_none]
  simp only [List.mem_map, not_exists, not_and, beq_iff_eq]
theorem at_of_mem {id : Int} (h : id ∈ ids l) : ∃ c, at? l id = some c := by
  cases hc : at? l id with
  | none => exact absurd h (at_none.1 hc)
  | some c => exact ⟨c, rfl⟩
theorem nodup_inj : ∀ {l : List Cls}, (ids l).Nodup → ∀ {c d : Cls}, c ∈ l → d ∈ l → c.id = d.id → c = d
  | [], _, _, _, hc, _, _ => by cases hc
  | x :: l, h, c, d, hc, hd, e => by
    have h' : x.id ∉ ids l ∧ (ids l).Nodup := List.nodup_cons.1 h
    rcases List.mem_cons.1 hc with rfl | hc2
    · rcases List.mem_cons.1 hd with rfl | hd
      · rfl
      · exact absurd (show c.id ∈ ids l from List.mem_map.2 ⟨d, hd, e.symm⟩) h'.1
    · rcases List.mem_cons.1 hd with rfl | hd
      · exact absurd (show d.id ∈ ids l from List.mem_map.2 ⟨c, hc2, e⟩) h'.1
      · exact nodup_inj h'.2 hc2 hd e
theorem at_is (G : Good l) {c : Cls} (hc : c ∈ l) : at? l c.id = some c := by
  obtain ⟨d, hd⟩ := at_of_mem (l := l) (id := c.id) (List.mem_map.2 ⟨c, hc, rfl⟩)
  have := at_mem hd
  rw [hd, nodup_inj G.nodup this.1 hc this.2]
theorem at_zero (G : Good l) : at? l 0 = none := by
  rw [at_none]
  intro h
  obtain ⟨c, hc, e⟩ := List.mem_map.1 h
  have := (G.pos c hc).1
  omega
theorem kids_mem {id k : Int} : k ∈ kids l id ↔ id ≠ 0 ∧ ∃ c ∈ l, c.id = k ∧ c.parent = id := by
  unfold kids
  simp only [List.mem_map, List.mem_filter, decide_eq_true_eq, sort_mem]
  constructor
  · rintro ⟨c, ⟨hc, hp, h0⟩, rfl⟩; exact ⟨h0, c, hc, rfl, hp⟩
  · rintro ⟨h0, c, hc, rfl, hp⟩; exact ⟨c, ⟨hc, hp, h0⟩, rfl⟩
theorem kids_ids {id k : Int} (h : k ∈ kids l id) : k ∈ ids l := by
  obtain ⟨_, c, hc, rfl, _⟩ := kids_mem.1 h
  exact List.mem_map.2 ⟨c, hc, rfl⟩
theorem rise_succ (n : Nat) (id : Int) : rise l (n + 1) id = match at? l id with
    | none => 0
    | some c => rise l n c.parent := rfl
theorem rise_z (G : Good l) (n : Nat) : rise l n 0 = 0 := by
  cases n with
  | zero => rfl
  | succ n => rw [rise_succ, at_zero G]
theorem rise_add (G : Good l) : ∀ (a b : Nat) (id : Int), rise l (a + b) id = rise l b (rise l a id)
  | 0, b, id => by rw [Nat.zero_add]; rfl
  | a + 1, b, id => by
    rw [show a + 1 + b = (a + b) + 1 by omega, rise_succ, rise_succ]
    cases h : at? l id with
    | none => exact (rise_z G b).symm
    | some c => exact rise_add G a b c.parent
theorem rise_zero (G : Good l) (n : Nat) : rise l n 0 = 0 := by cases n <;> simp [rise, at_zero G]
theorem rise_one (G : Good l) {id k : Int} (h : k ∈ kids l id) : rise l 1 k = id := by
  obtain ⟨_, c, hc, rfl, hp⟩ := kids_mem.1 h
  unfold rise
  rw [at_is G hc]
  simp [rise, hp]

/-- what is below comes up -/
theorem desc_rise (G : Good l) : ∀ (d : Nat) (x i : Int), i ∈ desc l d x → ∃ m, m < d ∧ rise l m i = x
  | 0, _, _, h => by simp [desc] at h
  | d + 1, x, i, h => by
    unfold desc at h
    rcases List.mem_cons.1 h with rfl | h
    · exact ⟨0, by omega, rfl⟩
    · obtain ⟨k, hk, hi⟩ := List.mem_flatMap.1 h
      obtain ⟨m, hm, he⟩ := desc_rise G d k i hi
      refine ⟨m + 1, by omega, ?_⟩
      rw [rise_add G, he, rise_one G hk]
/-- .. and what comes up to one that is there is below it -/
theorem rise_desc (G : Good l) : ∀ (m : Nat) (x i : Int), i ∈ ids l → rise l m i = x → x ≠ 0 → ∀ D, m < D → i ∈ desc l D x
  | 0, x, i, hi, he, hx, D, hD => by
    obtain ⟨D, rfl⟩ : ∃ E, D = E + 1 := ⟨D - 1, by omega⟩
    have : i = x := he
    subst this
    unfold desc; exact List.mem_cons_self
  | m + 1, x, i, hi, he, hx, D, hD => by
    obtain ⟨D, rfl⟩ : ∃ E, D = E + 1 := ⟨D - 1, by omega⟩
    rw [rise_add G] at he
    have hy : ∃ c, at? l (rise l m i) = some c := by
      cases h : at? l (rise l m i) with
      | none => simp only [rise, h] at he; exact absurd he.symm hx
      | some c => exact ⟨c, rfl⟩
    obtain ⟨c, hc⟩ := hy
    have hp : c.parent = x := by simpa [rise, hc] using he
    obtain ⟨hcl, hci⟩ := at_mem hc
    have hy0 : rise l m i ≠ 0 := by have := (G.pos c hcl).1; omega
    have hk : rise l m i ∈ kids l x := kids_mem.2 ⟨hx, c, hcl, hci, hp⟩
    have := rise_desc G m (rise l m i) i hi rfl hy0 D (by omega)
    unfold desc
    exact List.mem_cons_of_mem _ (List.mem_flatMap.2 ⟨_, hk, this⟩)
theorem deep_up : ∀ (d d' : Nat) (id : Int), d ≤ d' → Deep l d id → Deep l d' id
  | 0, _, _, _, h => h.elim
  | d + 1, d', id, hd, h => by
    obtain ⟨d', rfl⟩ : ∃ E, d' = E + 1 := ⟨d' - 1, by omega⟩
    intro c hc
    exact deep_up d d' c (by omega) (h c hc)
theorem fold_congr {f g : Int → Int} : ∀ (ks : List Int) (n : Int), (∀ c ∈ ks, f c = g c) → ks.foldl (fun n c => max n (f c)) n = ks.foldl (fun n c => max n (g c)) n
  | [], _, _ => rfl
  | k :: ks, n, h => by
    rw [List.foldl_cons, List.foldl_cons, h k List.mem_cons_self]
    exact fold_congr ks _ (fun c hc => h c (List.mem_cons_of_mem _ hc))
theorem lev_stable : ∀ (d d' : Nat) (id : Int), d ≤ d' → Deep l d id → lev l d' id = lev l d id
  | 0, _, _, _, h => h.elim
  | d + 1, d', id, hd, h => by
    obtain ⟨d', rfl⟩ : ∃ E, d' = E + 1 := ⟨d' - 1, by omega⟩
    unfold lev
    rw [fold_congr _ _ (fun c hc => lev_stable d d' c (by omega) (h c hc))]
theorem flat_congr {f g : Int → List Int} : ∀ (ks : List Int), (∀ c ∈ ks, f c = g c) → ks.flatMap f = ks.flatMap g
  | [], _ => rfl
  | k :: ks, h => by rw [List.flatMap_cons, List.flatMap_cons, h k List.mem_cons_self, flat_congr ks (fun c hc => h c (List.mem_cons_of_mem _ hc))]
theorem desc_stable : ∀ (d d' : Nat) (id : Int), d ≤ d' → Deep l d id → desc l d' id = desc l d id
  | 0, _, _, _, h => h.elim
  | d + 1, d', id, hd, h => by
    obtain ⟨d', rfl⟩ : ∃ E, d' = E + 1 := ⟨d' - 1, by omega⟩
    unfold desc
    rw [flat_congr _ (fun c hc => desc_stable d d' c (by omega) (h c hc))]
/-- a way down of d steps, if it is not ended ahead -/
theorem not_deep (G : Good l) : ∀ (d : Nat) (x : Int), x ∈ ids l → ¬ Deep l d x → ∃ p : List Int, p.length = d + 1 ∧ p[0]? = some x ∧ (∀ i ∈ p, i ∈ ids l) ∧ ∀ (j : Nat) (a b : Int), p[j]? = some a → p[j + 1]? = some b → b ∈ kids l a
  | 0, x, hx, _ => ⟨[x], rfl, rfl, by simpa using hx, fun j a b _ hb => by simp at hb⟩
  | d + 1, x, hx, h => by
    have : ∃ c ∈ kids l x, ¬ Deep l d c := by
      refine Classical.byContradiction fun hn => h fun c hc => Classical.byContradiction fun hd => hn ⟨c, hc, hd⟩
    obtain ⟨c, hc, hd⟩ := this
    obtain ⟨p, hp1, hp2, hp3, hp4⟩ := not_deep G d c (kids_ids hc) hd
    refine ⟨x :: p, by simp [hp1], rfl, ?_, ?_⟩
    · intro i hi
      rcases List.mem_cons.1 hi with rfl | hi
      · exact hx
      · exact hp3 i hi
    · intro j a b ha hb
      cases j with
      | zero =>
        have e1 : x = a := by simpa using ha
        have e2 : c = b := by rw [List.getElem?_cons_succ, hp2] at hb; simpa using hb
        rw [← e1, ← e2]; exact hc
      | succ j => exact hp4 j a b (by simpa using ha) (by simpa using hb)
theorem chain_rise (G : Good l) {p : List Int} (h : ∀ (j : Nat) (a b : Int), p[j]? = some a → p[j + 1]? = some b → b ∈ kids l a) : ∀ (n i : Nat) (a b : Int), p[i]? = some a → p[i + n]? = some b → rise l n b = a
  | 0, i, a, b, ha, hb => by
    have : some a = some b := ha.symm.trans hb
    simpa [rise] using this.symm
  | n + 1, i, a, b, ha, hb => by
    have hl := (List.getElem?_eq_some_iff.1 hb).1
    obtain ⟨y, hy⟩ : ∃ y, p[i + 1]? = some y := ⟨_, List.getElem?_eq_getElem (by omega)⟩
    have h1 := chain_rise G h n (i + 1) y b hy (by rw [show i + 1 + n = i + (n + 1) by omega]; exact hb)
    rw [rise_add G n 1, h1]
    exact rise_one G (h i a y ha hy)
theorem nodup_le : ∀ {zs l : List Int}, zs.Nodup → zs ⊆ l → zs.length ≤ l.length
  | [], _, _, _ => by simp
  | z :: zs, l, h, hs => by
    have h' := List.nodup_cons.1 h
    have hz : z ∈ l := hs List.mem_cons_self
    have h2 : zs ⊆ l.erase z := fun y hy => by
      have hne : y ≠ z := fun e => h'.1 (e ▸ hy)
      exact (List.mem_erase_of_ne hne).2 (hs (List.mem_cons_of_mem _ hy))
    have h3 := nodup_le h'.2 h2
    rw [List.length_erase_of_mem hz] at h3
    have := List.length_pos_of_mem hz
    simp; omega
/-- below the root no way down is longer than there are classes -/
theorem root_deep (G : Good l) {r : Int} (R : Root l r) : Deep l l.length r := by
  refine Classical.byContradiction fun hn => ?_
  obtain ⟨cr, hcr, rfl, hp0⟩ := R.root
  obtain ⟨p, hp1, hp2, hp3, hp4⟩ := not_deep G l.length cr.id (List.mem_map.2 ⟨cr, hcr, rfl⟩) hn
  have hr0 : rise l 1 cr.id = 0 := by unfold rise; rw [at_is G hcr]; simp [rise, hp0]
  have hnd : p.Nodup := by
    refine List.pairwise_iff_getElem.2 fun i j hi hj hij he0 => ?_
    obtain ⟨b, hb⟩ : ∃ b, p[j]? = some b := ⟨_, List.getElem?_eq_getElem hj⟩
    have he : p[i]? = some b := by rw [← hb, List.getElem?_eq_getElem hi, List.getElem?_eq_getElem hj, he0]
    have h1 := chain_rise G hp4 i 0 cr.id b hp2 (by simpa using he)
    have h2 := chain_rise G hp4 j 0 cr.id b hp2 (by simpa using hb)
    obtain ⟨k, rfl⟩ : ∃ k, j = i + 1 + k := ⟨j - i - 1, by omega⟩
    rw [show i + 1 + k = i + (1 + k) by omega, rise_add G, h1, rise_add G, hr0, rise_zero G] at h2
    have := (G.pos cr hcr).1
    omega
  have := nodup_le hnd (fun i hi => hp3 i hi)
  rw [hp1] at this
  have h3 : (ids l).length = l.length := List.length_map ..
  omega
end Go.Proofs.Ytdoemgccmjddcaa.Tp
