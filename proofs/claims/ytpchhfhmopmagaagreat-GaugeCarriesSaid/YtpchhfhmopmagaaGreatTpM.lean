/- Class hierarchies, told plainly: children, the way up, levels. Class hierarchies: rings, levels. What is wrong with classes, told plainly. Classes laid into maps, one by one. -/
import Derived.Test.YtpchhfhmopmagaaGreatSsM
import Derived.Test.YtpchhfhmopmagaaGreatMp
set_option linter.unusedVariables false
set_option linter.unusedSimpArgs false
/- Class hierarchies, told plainly: children, the way up, levels. -/
namespace Go.Proofs.YtpchhfhmopmagaaGreat.Tp
open Go.Proofs.YtpchhfhmopmagaaGreat.Cl Go.Proofs.YtpchhfhmopmagaaGreat.So

theorem ren_mem {l m : List Cls} (h : Ren Cls.id l m) (c : Cls) : c ∈ l ↔ c ∈ m := ⟨fun k => h.mem k, fun k => h.symm.mem k⟩
theorem sort_mem {l : List Cls} {c : Cls} : c ∈ sortC l ↔ c ∈ l := (ren_mem (sortC_ok l).2 c).symm

def ids (l : List Cls) : List Int := l.map Cls.id
/-- the class of an id -/
def at? (l : List Cls) (id : Int) : Option Cls := l.find? (fun c => c.id == id)
/-- the ids of a class's children, rising -/
def kids (l : List Cls) (id : Int) : List Int := ((sortC l).filter (fun c => decide (c.parent = id ∧ id ≠ 0))).map Cls.id
/-- so many steps up -/
def rise (l : List Cls) : Nat → Int → Int
  | 0, id => id
  | n + 1, id => match at? l id with
    | none => 0
    | some c => rise l n c.parent
def lev (l : List Cls) : Nat → Int → Int
  | 0, _ => 0
  | d + 1, id => (kids l id).foldl (fun n c => max n (lev l d c)) 0 + 1
/-- all below -/
def desc (l : List Cls) : Nat → Int → List Int
  | 0, _ => []
  | d + 1, id => id :: (kids l id).flatMap (desc l d)
/-- no way down is longer -/
def Deep (l : List Cls) : Nat → Int → Prop
  | 0, _ => False
  | d + 1, id => ∀ c ∈ kids l id, Deep l d c
/-- classes that are right, each of an id of its own -/
structure Good (l : List Cls) : Prop where
  pos : ∀ c ∈ l, 1 ≤ c.id ∧ c.id ≤ 65535 ∧ 0 ≤ c.parent ∧ c.parent ≤ 65535
  nodup : (ids l).Nodup
/-- one root, and each other class is below one that is there -/
structure Root (l : List Cls) (r : Int) : Prop where
  root : ∃ c ∈ l, c.id = r ∧ c.parent = 0
  one : ∀ c ∈ l, c.parent = 0 → c.id = r
  par : ∀ c ∈ l, c.parent ≠ 0 → c.parent ∈ ids l

variable {l : List Cls}
theorem at_mem {id : Int} {c : Cls} (h : at? l id = some c) : c ∈ l ∧ c.id = id := ⟨List.mem_of_find?_eq_some h, by have := List.find?_some h; simpa using this⟩
theorem at_none {id : Int} : at? l id = none ↔ id ∉ ids l := by
  unfold at? ids
  rw [List.find?_eq_none]
  simp only [List.mem_map, not_exists, not_and, beq_iff_eq]
theorem at_of_mem {id : Int} (h : id ∈ ids l) : ∃ c, at? l id = some c := by
  cases hc : at? l id with
  | none => exact absurd h (at_none.1 hc)
  | some c => exact ⟨c, rfl⟩
theorem nodup_inj : ∀ {l : List Cls}, (ids l).Nodup → ∀ {c d : Cls}, c ∈ l → d ∈ l → c.id = d.id → c = d
  | [], _, _, _, hc, _, _ => by cases hc
  | x :: l, h, c, d, hc, hd, e => by
    have h' : x.id ∉ ids l ∧ (ids l).Nodup := List.nodup_cons.1 h
    rcases List.mem_cons.1 hc with rfl | hc2
    · rcases List.mem_cons.1 hd with rfl | hd
      · rfl
      · exact absurd (show c.id ∈ ids l from List.mem_map.2 ⟨d, hd, e.symm⟩) h'.1
    · rcases List.mem_cons.1 hd with rfl | hd
      · exact absurd (show d.id ∈ ids l from List.mem_map.2 ⟨c, hc2, e⟩) h'.1
      · exact nodup_inj h'.2 hc2 hd e
theorem at_is (G : Good l) {c : Cls} (hc : c ∈ l) : at? l c.id = some c := by
  obtain ⟨d, hd⟩ := at_of_mem (l := l) (id := c.id) (List.mem_map.2 ⟨c, hc, rfl⟩)
  have := at_mem hd
  rw [hd, nodup_inj G.nodup this.1 hc this.2]
theorem at_zero (G : Good l) : at? l 0 = none := by
  rw [at_none]
  intro h
  obtain ⟨c, hc, e⟩ := List.mem_map.1 h
  have := (G.pos c hc).1
  omega
theorem kids_mem {id k : Int} : k ∈ kids l id ↔ id ≠ 0 ∧ ∃ c ∈ l, c.id = k ∧ c.parent = id := by
  unfold kids
  simp only [List.mem_map, List.mem_filter, decide_eq_true_eq, sort_mem]
  constructor
  · rintro ⟨c, ⟨hc, hp, h0⟩, rfl⟩; exact ⟨h0, c, hc, rfl, hp⟩
  · rintro ⟨h0, c, hc, rfl, hp⟩; exact ⟨c, ⟨hc, hp, h0⟩, rfl⟩
theorem kids_ids {id k : Int} (h : k ∈ kids l id) : k ∈ ids l := by
  obtain ⟨_, c, hc, rfl, _⟩ := kids_mem.1 h
  exact List.mem_map.2 ⟨c, hc, rfl⟩
theorem rise_succ (n : Nat) (id : Int) : rise l (n + 1) id = match at? l id with
    | none => 0
    | some c => rise l n c.parent := rfl
theorem rise_z (G : Good l) (n : Nat) : rise l n 0 = 0 := by
  cases n with
  | zero => rfl
  | succ n => rw [rise_succ, at_zero G]
theorem rise_add (G : Good l) : ∀ (a b : Nat) (id : Int), rise l (a + b) id = rise l b (rise l a id)
  | 0, b, id => by rw [Nat.zero_add]; rfl
  | a + 1, b, id => by
    rw [show a + 1 + b = (a + b) + 1 by omega, rise_succ, rise_succ]
    cases h : at? l id with
    | none => exact (rise_z G b).symm
    | some c => exact rise_add G a b c.parent
theorem rise_zero (G : Good l) (n : Nat) : rise l n 0 = 0 := by cases n <;> simp [rise, at_zero G]
theorem rise_one (G : Good l) {id k : Int} (h : k ∈ kids l id) : rise l 1 k = id := by
  obtain ⟨_, c, hc, rfl, hp⟩ := kids_mem.1 h
  unfold rise
  rw [at_is G hc]
  simp [rise, hp]

/-- what is below comes up -/
theorem desc_rise (G : Good l) : ∀ (d : Nat) (x i : Int), i ∈ desc l d x → ∃ m, m < d ∧ rise l m i = x
  | 0, _, _, h => by simp [desc] at h
  | d + 1, x, i, h => by
    unfold desc at h
    rcases List.mem_cons.1 h with rfl | h
    · exact ⟨0, by omega, rfl⟩
    · obtain ⟨k, hk, hi⟩ := List.mem_flatMap.1 h
      obtain ⟨m, hm, he⟩ := desc_rise G d k i hi
      refine ⟨m + 1, by omega, ?_⟩
      rw [rise_add G, he, rise_one G hk]
/-- .. and what comes up to one that is there is below it -/
theorem rise_desc (G : Good l) : ∀ (m : Nat) (x i : Int), i ∈ ids l → rise l m i = x → x ≠ 0 → ∀ D, m < D → i ∈ desc l D x
  | 0, x, i, hi, he, hx, D, hD => by
    obtain ⟨D, rfl⟩ : ∃ E, D = E + 1 := ⟨D - 1, by omega⟩
    have : i = x := he
    subst this
    unfold desc; exact List.mem_cons_self
  | m + 1, x, i, hi, he, hx, D, hD => by
    obtain ⟨D, rfl⟩ : ∃ E, D = E + 1 := ⟨D - 1, by omega⟩
    rw [rise_add G] at he
    have hy : ∃ c, at? l (rise l m i) = some c := by
      cases h : at? l (rise l m i) with
      | none => simp only [rise, h] at he; exact absurd he.symm hx
      | some c => exact ⟨c, rfl⟩
    obtain ⟨c, hc⟩ := hy
    have hp : c.parent = x := by simpa [rise, hc] using he
    obtain ⟨hcl, hci⟩ := at_mem hc
    have hy0 : rise l m i ≠ 0 := by have := (G.pos c hcl).1; omega
    have hk : rise l m i ∈ kids l x := kids_mem.2 ⟨hx, c, hcl, hci, hp⟩
    have := rise_desc G m (rise l m i) i hi rfl hy0 D (by omega)
    unfold desc
    exact List.mem_cons_of_mem _ (List.mem_flatMap.2 ⟨_, hk, this⟩)
theorem deep_up : ∀ (d d' : Nat) (id : Int), d ≤ d' → Deep l d id → Deep l d' id
  | 0, _, _, _, h => h.elim
  | d + 1, d', id, hd, h => by
    obtain ⟨d', rfl⟩ : ∃ E, d' = E + 1 := ⟨d' - 1, by omega⟩
    intro c hc
    exact deep_up d d' c (by omega) (h c hc)
theorem fold_congr {f g : Int → Int} : ∀ (ks : List Int) (n : Int), (∀ c ∈ ks, f c = g c) → ks.foldl (fun n c => max n (f c)) n = ks.foldl (fun n c => max n (g c)) n
  | [], _, _ => rfl
  | k :: ks, n, h => by
    rw [List.foldl_cons, List.foldl_cons, h k List.mem_cons_self]
    exact fold_congr ks _ (fun c hc => h c (List.mem_cons_of_mem _ hc))
theorem lev_stable : ∀ (d d' : Nat) (id : Int), d ≤ d' → Deep l d id → lev l d' id = lev l d id
  | 0, _, _, _, h => h.elim
  | d + 1, d', id, hd, h => by
    obtain ⟨d', rfl⟩ : ∃ E, d' = E + 1 := ⟨d' - 1, by omega⟩
    unfold lev
    rw [fold_congr _ _ (fun c hc => lev_stable d d' c (by omega) (h c hc))]
theorem flat_congr {f g : Int → List Int} : ∀ (ks : List Int), (∀ c ∈ ks, f c = g c) → ks.flatMap f = ks.flatMap g
  | [], _ => rfl
  | k :: ks, h => by rw [List.flatMap_cons, List.flatMap_cons, h k List.mem_cons_self, flat_congr ks (fun c hc => h c (List.mem_cons_of_mem _ hc))]
theorem desc_stable : ∀ (d d' : Nat) (id : Int), d ≤ d' → Deep l d id → desc l d' id = desc l d id
  | 0, _, _, _, h => h.elim
  | d + 1, d', id, hd, h => by
    obtain ⟨d', rfl⟩ : ∃ E, d' = E + 1 := ⟨d' - 1, by omega⟩
    unfold desc
    rw [flat_congr _ (fun c hc => desc_stable d d' c (by omega) (h c hc))]
/-- a way down of d steps, if it is not ended ahead -/
theorem not_deep (G : Good l) : ∀ (d : Nat) (x : Int), x ∈ ids l → ¬ Deep l d x → ∃ p : List Int, p.length = d + 1 ∧ p[0]? = some x ∧ (∀ i ∈ p, i ∈ ids l) ∧ ∀ (j : Nat) (a b : Int), p[j]? = some a → p[j + 1]? = some b → b ∈ kids l a
  | 0, x, hx, _ => ⟨[x], rfl, rfl, by simpa using hx, fun j a b _ hb => by simp at hb⟩
  | d + 1, x, hx, h => by
    have : ∃ c ∈ kids l x, ¬ Deep l d c := by
      refine Classical.byContradiction fun hn => h fun c hc => Classical.byContradiction fun hd => hn ⟨c, hc, hd⟩
    obtain ⟨c, hc, hd⟩ := this
    obtain ⟨p, hp1, hp2, hp3, hp4⟩ := not_deep G d c (kids_ids hc) hd
    refine ⟨x :: p, by simp [hp1], rfl, ?_, ?_⟩
    · intro i hi
      rcases List.mem_cons.1 hi with rfl | hi
      · exact hx
      · exact hp3 i hi
    · intro j a b ha hb
      cases j with
      | zero =>
        have e1 : x = a := by simpa using ha
        have e2 : c = b := by rw [List.getElem?_cons_succ, hp2] at hb; simpa using hb
        rw [← e1, ← e2]; exact hc
      | succ j => exact hp4 j a b (by simpa using ha) (by simpa using hb)
theorem chain_rise (G : Good l) {p : List Int} (h : ∀ (j : Nat) (a b : Int), p[j]? = some a → p[j + 1]? = some b → b ∈ kids l a) : ∀ (n i : Nat) (a b : Int), p[i]? = some a → p[i + n]? = some b → rise l n b = a
  | 0, i, a, b, ha, hb => by
    have : some a = some b := ha.symm.trans hb
    simpa [rise] using this.symm
  | n + 1, i, a, b, ha, hb => by
    have hl := (List.getElem?_eq_some_iff.1 hb).1
    obtain ⟨y, hy⟩ : ∃ y, p[i + 1]? = some y := ⟨_, List.getElem?_eq_getElem (by omega)⟩
    have h1 := chain_rise G h n (i + 1) y b hy (by rw [show i + 1 + n = i + (n + 1) by omega]; exact hb)
    rw [rise_add G n 1, h1]
    exact rise_one G (h i a y ha hy)
theorem nodup_le : ∀ {zs l : List Int}, zs.Nodup → zs ⊆ l → zs.length ≤ l.length
  | [], _, _, _ => by simp
  | z :: zs, l, h, hs => by
    have h' := List.nodup_cons.1 h
    have hz : z ∈ l := hs List.mem_cons_self
    have h2 : zs ⊆ l.erase z := fun y hy => by
      have hne : y ≠ z := fun e => h'.1 (e ▸ hy)
      exact (List.mem_erase_of_ne hne).2 (hs (List.mem_cons_of_mem _ hy))
    have h3 := nodup_le h'.2 h2
    rw [List.length_erase_of_mem hz] at h3
    have := List.length_pos_of_mem hz
    simp; omega
/-- below the root no way down is longer than there are classes -/
theorem root_deep (G : Good l) {r : Int} (R : Root l r) : Deep l l.length r := by
  refine Classical.byContradiction fun hn => ?_
  obtain ⟨cr, hcr, rfl, hp0⟩ := R.root
  obtain ⟨p, hp1, hp2, hp3, hp4⟩ := not_deep G l.length cr.id (List.mem_map.2 ⟨cr, hcr, rfl⟩) hn
  have hr0 : rise l 1 cr.id = 0 := by unfold rise; rw [at_is G hcr]; simp [rise, hp0]
  have hnd : p.Nodup := by
    refine List.pairwise_iff_getElem.2 fun i j hi hj hij he0 => ?_
    obtain ⟨b, hb⟩ : ∃ b, p[j]? = some b := ⟨_, List.getElem?_eq_getElem hj⟩
    have he : p[i]? = some b := by rw [← hb, List.getElem?_eq_getElem hi, List.getElem?_eq_getElem hj, he0]
    have h1 := chain_rise G hp4 i 0 cr.id b hp2 (by simpa using he)
    have h2 := chain_rise G hp4 j 0 cr.id b hp2 (by simpa using hb)
    obtain ⟨k, rfl⟩ : ∃ k, j = i + 1 + k := ⟨j - i - 1, by omega⟩
    rw [show i + 1 + k = i + (1 + k) by omega, rise_add G, h1, rise_add G, hr0, rise_zero G] at h2
    have := (G.pos cr hcr).1
    omega
  have := nodup_le hnd (fun i hi => hp3 i hi)
  rw [hp1] at this
  have h3 : (ids l).length = l.length := List.length_map ..
  omega
end Go.Proofs.YtpchhfhmopmagaaGreat.Tp

/- Class hierarchies: rings, levels. -/
namespace Go.Proofs.YtpchhfhmopmagaaGreat.Tp
open Go.Proofs.YtpchhfhmopmagaaGreat.Cl Go.Proofs.YtpchhfhmopmagaaGreat.So
variable {l : List Cls}

theorem desc_ids : ∀ (d : Nat) (x i : Int), x ∈ ids l → i ∈ desc l d x → i ∈ ids l
  | 0, _, _, _, h => by simp [desc] at h
  | d + 1, x, i, hx, h => by
    unfold desc at h
    rcases List.mem_cons.1 h with rfl | h
    · exact hx
    · obtain ⟨k, hk, hi⟩ := List.mem_flatMap.1 h
      exact desc_ids d k i (kids_ids hk) hi
theorem root_mem {r : Int} (R : Root l r) : r ∈ ids l := by
  obtain ⟨c, hc, rfl, _⟩ := R.root
  exact List.mem_map.2 ⟨c, hc, rfl⟩
theorem ids_pos (G : Good l) {i : Int} (h : i ∈ ids l) : 1 ≤ i ∧ i ≤ 65535 := by
  obtain ⟨c, hc, rfl⟩ := List.mem_map.1 h
  exact ⟨(G.pos c hc).1, (G.pos c hc).2.1⟩
theorem rise_root (G : Good l) {r : Int} (R : Root l r) : rise l 1 r = 0 := by
  obtain ⟨c, hc, rfl, hp⟩ := R.root
  rw [rise_succ, at_is G hc]; exact hp
/-- one step up from one that is there: 0 at the root alone, else one that is there -/
theorem rise_step (G : Good l) {r : Int} (R : Root l r) {i : Int} (h : i ∈ ids l) : (i = r ∧ rise l 1 i = 0) ∨ (rise l 1 i ∈ ids l) := by
  obtain ⟨c, hc, rfl⟩ := List.mem_map.1 h
  have e : rise l 1 c.id = c.parent := by rw [rise_succ, at_is G hc]; rfl
  rw [e]
  by_cases hp : c.parent = 0
  · exact .inl ⟨R.one c hc hp, hp⟩
  · exact .inr (R.par c hc hp)
/-- so many steps up: 0 behind the root, or one that is there -/
theorem rise_cases (G : Good l) {r : Int} (R : Root l r) {i : Int} (h : i ∈ ids l) : ∀ n, (rise l n i ∈ ids l) ∨ ∃ m, m < n ∧ rise l m i = r ∧ rise l n i = 0
  | 0 => .inl h
  | n + 1 => by
    rw [rise_add G]
    rcases rise_cases G R h n with h1 | ⟨m, hm, h1, h2⟩
    · rcases rise_step G R h1 with ⟨h3, h4⟩ | h3
      · exact .inr ⟨n, by omega, h3, h4⟩
      · exact .inl h3
    · rw [h2]; exact .inr ⟨m, by omega, h1, rise_z G 1⟩
theorem root_deep64 (G : Good l) {r : Int} (R : Root l r) (hl : l.length ≤ 64) : Deep l 64 r := deep_up _ _ _ hl (root_deep G R)
theorem ring_iff (G : Good l) {r : Int} (R : Root l r) (hl : l.length ≤ 64) : (∀ i ∈ ids l, rise l 65 i = 0) ↔ ∀ i ∈ ids l, i ∈ desc l 64 r := by
  have hD := root_deep64 G R hl
  constructor
  · intro h i hi
    rcases rise_cases G R hi 65 with h1 | ⟨m, hm, h1, _⟩
    · rw [h i hi] at h1
      have := ids_pos G h1
      omega
    · have := rise_desc G m r i hi h1 (by have := ids_pos G (root_mem R); omega) 65 hm
      rwa [desc_stable 64 65 r (by omega) hD] at this
  · intro h i hi
    obtain ⟨m, hm, he⟩ := desc_rise G 64 r i (h i hi)
    obtain ⟨k, hk⟩ : ∃ k, 65 = m + (1 + k) := ⟨64 - m, by omega⟩
    rw [hk, rise_add G, he, rise_add G, rise_root G R, rise_z G]
def level (l : List Cls) (id : Int) : Int := lev l 64 id
theorem fold_max_ge : ∀ (ks : List Int) (f : Int → Int) (n : Int), n ≤ ks.foldl (fun n c => max n (f c)) n
  | [], _, n => Int.le_refl n
  | k :: ks, f, n => by rw [List.foldl_cons]; exact Int.le_trans (by omega) (fold_max_ge ks f _)
theorem fold_max_le {f : Int → Int} {m : Int} : ∀ (ks : List Int) (n : Int), n ≤ m → (∀ c ∈ ks, f c ≤ m) → ks.foldl (fun n c => max n (f c)) n ≤ m
  | [], n, h, _ => h
  | k :: ks, n, h, hk => by
    rw [List.foldl_cons]
    exact fold_max_le ks _ (by have := hk k List.mem_cons_self; omega) (fun c hc => hk c (List.mem_cons_of_mem _ hc))
theorem lev_bd : ∀ (d : Nat) (id : Int), 0 ≤ lev l d id ∧ lev l d id ≤ d
  | 0, _ => ⟨Int.le_refl 0, Int.le_refl 0⟩
  | d + 1, id => by
    unfold lev
    have h1 := fold_max_ge (kids l id) (lev l d) 0
    have h2 := fold_max_le (f := lev l d) (m := d) (kids l id) 0 (by omega) (fun c _ => (lev_bd d c).2)
    omega
theorem level_bd (id : Int) : 0 ≤ level l id ∧ level l id ≤ 64 := lev_bd 64 id
/-- the greatest level of the first k children -/
def most (l : List Cls) (ks : List Int) : Int := ks.foldl (fun n c => max n (level l c)) 0
theorem most_bd (ks : List Int) : 0 ≤ most l ks ∧ most l ks ≤ 64 := ⟨fold_max_ge _ _ _, fold_max_le _ _ (by omega) (fun c _ => (level_bd c).2)⟩
theorem most_succ {ks : List Int} {k : Nat} {c : Int} (h : ks[k]? = some c) : most l (ks.take (k + 1)) = max (most l (ks.take k)) (level l c) := by
  unfold most; rw [List.take_add_one, h, List.foldl_append]; rfl
theorem level_eq {d : Nat} {id : Int} (hd : d < 64) (h : Deep l (d + 1) id) : level l id = most l (kids l id) + 1 := by
  unfold level most
  show (kids l id).foldl (fun n c => max n (lev l 63 c)) 0 + 1 = _
  rw [fold_congr _ _ (fun c hc => ?_)]
  show lev l 63 c = lev l 64 c
  rw [lev_stable d 63 c (by omega) (h c hc), lev_stable d 64 c (by omega) (h c hc)]
/-- the levels that are noted -/
def notes (l : List Cls) (f : Int → Option Int) (S : List Int) : Int → Option Int := fun i => if i ∈ S then some (level l i) else f i
theorem notes_nil (f : Int → Option Int) : notes l f [] = f := by funext i; simp [notes]
theorem notes_app (f : Int → Option Int) (S S' : List Int) : notes l (notes l f S) S' = notes l f (S ++ S') := by
  funext i
  unfold notes
  by_cases h : i ∈ S' <;> by_cases h' : i ∈ S <;> simp [h, h']
theorem notes_one (f : Int → Option Int) (S : List Int) (id : Int) : (fun i => if i = id then some (level l id) else notes l f S i) = notes l f (id :: S) := by
  funext i
  unfold notes
  by_cases h : i = id
  · subst h; simp
  · simp [h]
/-- how many are noted -/
theorem count_lt (G : Good l) {ks S : List Int} (hk : ks.Nodup) (hm : ∀ i, i ∈ ks ↔ i ∈ S) (hS : ∀ i ∈ S, i ∈ ids l) : ks.length < l.length ↔ ¬ ∀ i ∈ ids l, i ∈ S := by
  have hlen : (ids l).length = l.length := List.length_map ..
  have h1 : ks.length ≤ (ids l).length := nodup_le hk (fun i hi => hS i ((hm i).1 hi))
  constructor
  · intro h hall
    have h2 : (ids l).length ≤ ks.length := nodup_le G.nodup (fun i hi => (hm i).2 (hall i hi))
    omega
  · intro h
    refine Classical.byContradiction fun hn => h fun i hi => Classical.byContradiction fun hiS => ?_
    have h3 : (i :: ks).Nodup := List.nodup_cons.2 ⟨fun h => hiS ((hm i).1 h), hk⟩
    have h4 := nodup_le h3 (l := ids l) (fun j hj => by
      rcases List.mem_cons.1 hj with rfl | hj
      · exact hi
      · exact hS j ((hm j).1 hj))
    simp at h4
    omega
end Go.Proofs.YtpchhfhmopmagaaGreat.Tp

/- What is wrong with classes, told plainly. -/
namespace Go.Proofs.YtpchhfhmopmagaaGreat.Tp
open Go.Proofs.YtpchhfhmopmagaaGreat.Cl Go.Proofs.YtpchhfhmopmagaaGreat.So
variable {l : List Cls}

theorem find_neg {zs : List Cls} {id : Int} : findC zs id < 0 ↔ id ∉ ids zs := by
  unfold findC ids
  cases h : zs.findIdx? (fun x => x.id == id) with
  | none =>
    rw [List.findIdx?_eq_none_iff] at h
    simp only [List.mem_map, not_exists, not_and]
    exact ⟨fun _ c hc e => by have := h c hc; simp [e] at this, fun _ => by omega⟩
  | some i =>
    obtain ⟨hi, hp, _⟩ := List.findIdx?_eq_some_iff_getElem.1 h
    simp only [List.mem_map, not_exists, not_and]
    exact ⟨fun h => by omega, fun h => absurd (by simpa using hp) (h _ (List.getElem_mem hi))⟩
theorem find_cases (zs : List Cls) (id : Int) : (findC zs id = -1 ∧ id ∉ ids zs) ∨ ∃ (i : Nat) (c : Cls), findC zs id = i ∧ zs[i]? = some c ∧ c.id = id ∧ ∀ (j : Nat) (d : Cls), j < i → zs[j]? = some d → d.id ≠ id := by
  unfold findC
  cases h : zs.findIdx? (fun x => x.id == id) with
  | none =>
    refine .inl ⟨rfl, ?_⟩
    rw [List.findIdx?_eq_none_iff] at h
    unfold ids
    simp only [List.mem_map, not_exists, not_and]
    exact fun c hc e => by have := h c hc; simp [e] at this
  | some i =>
    obtain ⟨hi, hp, hm⟩ := List.findIdx?_eq_some_iff_getElem.1 h
    refine .inr ⟨i, zs[i], rfl, List.getElem?_eq_getElem hi, by simpa using hp, fun j d hj hd => ?_⟩
    have := hm j hj
    obtain ⟨hjl, rfl⟩ := List.getElem?_eq_some_iff.1 hd
    simpa using this
theorem find_at {zs : List Cls} {id : Int} : (findC zs id < 0 ∧ at? zs id = none) ∨ ∃ (i : Nat) (c : Cls), findC zs id = i ∧ zs[i]? = some c ∧ at? zs id = some c := by
  rcases find_cases zs id with ⟨h, hn⟩ | ⟨i, c, h, hc, he, hm⟩
  · exact .inl ⟨by omega, at_none.2 hn⟩
  · refine .inr ⟨i, c, h, hc, ?_⟩
    unfold at?
    rw [List.find?_eq_some_iff_getElem]
    obtain ⟨hi, rfl⟩ := List.getElem?_eq_some_iff.1 hc
    refine ⟨by simpa using he, i, hi, rfl, fun j hj => ?_⟩
    have := hm j zs[j] hj (List.getElem?_eq_getElem (by omega))
    simpa using this
/-- what is wrong with the j-th class by itself and those ahead -/
def errAt (l : List Cls) (j : Nat) : Int := match l[j]? with
  | some c => if rightS c ≠ 0 then rightS c else if findC (l.take j) c.id < 0 then 0 else 9
  | none => 0
theorem errAt_is {k : Nat} {c : Cls} (hc : l[k]? = some c) (h : rightS c = 0) : errAt l k = if findC (l.take k) c.id < 0 then 0 else 9 := by
  unfold errAt; rw [hc]; simp only; rw [if_neg (by simpa using h)]
theorem errAt_bad {k : Nat} {c : Cls} (hc : l[k]? = some c) (h : rightS c ≠ 0) : errAt l k = rightS c := by
  unfold errAt; rw [hc]; simp only; rw [if_pos h]
def scan (l : List Cls) : Nat → Int
  | 0 => 0
  | k + 1 => if scan l k ≠ 0 then scan l k else errAt l k
theorem scan_succ {k : Nat} (h : scan l k = 0) : scan l (k + 1) = errAt l k := by unfold scan; rw [if_neg (by simpa using h)]
theorem scan_hit {k : Nat} (h : scan l k = 0) (he : errAt l k ≠ 0) : ∀ n, k < n → scan l n = errAt l k
  | 0, hn => by omega
  | n + 1, hn => by
    by_cases hk : k = n
    · subst hk; exact scan_succ h
    · have ih := scan_hit h he n (by omega)
      unfold scan
      rw [ih, if_pos he]
theorem scan_zero : ∀ {n : Nat}, scan l n = 0 → ∀ j, j < n → errAt l j = 0
  | 0, _, j, hj => by omega
  | n + 1, h, j, hj => by
    by_cases h0 : scan l n = 0
    · rw [scan_succ h0] at h
      by_cases hjn : j = n
      · subst hjn; exact h
      · exact scan_zero h0 j (by omega)
    · unfold scan at h
      rw [if_pos h0] at h
      exact absurd h h0
theorem right_pos {c : Cls} (h : rightS c = 0) : 1 ≤ c.id ∧ c.id ≤ 65535 ∧ 0 ≤ c.parent ∧ c.parent ≤ 65535 := by
  unfold rightS at h
  split at h
  · cases h
  · omega
theorem errAt_zero {j : Nat} {c : Cls} (hc : l[j]? = some c) (h : errAt l j = 0) : rightS c = 0 ∧ findC (l.take j) c.id < 0 := by
  unfold errAt at h
  rw [hc] at h
  simp only at h
  split at h
  · rename_i h1; exact absurd h h1
  · rename_i h1
    split at h
    · rename_i h2; exact ⟨by simpa using h1, h2⟩
    · cases h
theorem nodup_take : ∀ (l : List Cls), (∀ (j : Nat) (c : Cls), l[j]? = some c → c.id ∉ ids (l.take j)) → (ids l).Nodup := by
  intro l h
  refine List.pairwise_iff_getElem.2 fun i j hi hj hij e => ?_
  unfold ids at hi hj e
  rw [List.length_map] at hi hj
  rw [List.getElem_map, List.getElem_map] at e
  refine h j l[j] (List.getElem?_eq_getElem hj) ?_
  unfold ids
  refine List.mem_map.2 ⟨l[i], ?_, e⟩
  exact List.mem_iff_getElem?.2 ⟨i, by rw [List.getElem?_take_of_lt hij]; exact List.getElem?_eq_getElem hi⟩
theorem good_of {l : List Cls} (h : scan l l.length = 0) : Good l where
  pos c hc := by
    obtain ⟨j, hj⟩ := List.mem_iff_getElem?.1 hc
    exact right_pos (errAt_zero hj (scan_zero h j (List.getElem?_eq_some_iff.1 hj).1)).1
  nodup := nodup_take l fun j c hj => find_neg.1 (errAt_zero hj (scan_zero h j (List.getElem?_eq_some_iff.1 hj).1)).2
theorem right_of {l : List Cls} (h : scan l l.length = 0) : ∀ c ∈ l, rightS c = 0 := fun c hc => by
  obtain ⟨j, hj⟩ := List.mem_iff_getElem?.1 hc
  exact (errAt_zero hj (scan_zero h j (List.getElem?_eq_some_iff.1 hj).1)).1
/-- the first class without a parent -/
def rootS (l : List Cls) : Int := match l.find? (fun c => c.parent == 0) with
  | some c => c.id
  | none => 0
theorem root_is {r : Int} (R : Root l r) : rootS l = r := by
  obtain ⟨c, hc, _, hp⟩ := R.root
  unfold rootS
  cases h : l.find? (fun c => c.parent == 0) with
  | none => rw [List.find?_eq_none] at h; exact absurd (by simpa using hp) (h c hc)
  | some d => exact R.one d (List.mem_of_find?_eq_some h) (by have := List.find?_some h; simpa using this)
open Classical in
/-- what is wrong with classes -/
noncomputable def chk (l : List Cls) : Int :=
  if l.length = 0 then 8 else if 64 < l.length then 3 else if scan l l.length ≠ 0 then scan l l.length
  else if ¬ Root l (rootS l) then 10 else if ¬ ∀ i ∈ ids l, i ∈ desc l 64 (rootS l) then 11 else if 8 < level l (rootS l) then 12 else 0
/-- classes that are a tree -/
structure Tree (l : List Cls) : Prop where
  ne : 0 < l.length
  le : l.length ≤ 64
  good : Good l
  right : ∀ c ∈ l, rightS c = 0
  root : Root l (rootS l)
  all : ∀ i ∈ ids l, i ∈ desc l 64 (rootS l)
  low : level l (rootS l) ≤ 8
theorem chk_tree (h : chk l = 0) : Tree l := by
  unfold chk at h
  split at h
  · cases h
  · rename_i h1
    split at h
    · cases h
    · rename_i h2
      split at h
      · rename_i h3; exact absurd h h3
      · rename_i h3
        have h3 : scan l l.length = 0 := by simpa using h3
        split at h
        · cases h
        · rename_i h4
          split at h
          · cases h
          · rename_i h5
            split at h
            · cases h
            · rename_i h6
              exact ⟨by omega, by omega, good_of h3, right_of h3, Classical.not_not.1 h4, Classical.not_not.1 h5, by omega⟩
end Go.Proofs.YtpchhfhmopmagaaGreat.Tp

/- Classes laid into maps, one by one. -/
namespace Go.Proofs.YtpchhfhmopmagaaGreat.Tp
open Go.Proofs.YtpchhfhmopmagaaGreat.Cl Go.Proofs.YtpchhfhmopmagaaGreat.So
variable {l : List Cls}

/-- the children among the first k, in the order of the ids -/
def kidsP (l : List Cls) (k : Nat) (id : Int) : List Int := (((sortC l).take k).filter (fun c => decide (c.parent = id ∧ id ≠ 0))).map Cls.id
def clsF (l : List Cls) (k : Nat) : Int → Option Cls := ((sortC l).take k).foldl (fun f x => fun i => if i = x.id then some x else f i) (fun _ => none)
theorem kidsP_all (id : Int) : kidsP l (sortC l).length id = kids l id := by unfold kidsP; rw [List.take_length]; rfl
theorem kidsP_in {k : Nat} {x : Cls} (h : (sortC l)[k]? = some x) (hp : x.parent ≠ 0) : kidsP l (k + 1) x.parent = kidsP l k x.parent ++ [x.id] := by
  unfold kidsP; rw [List.take_add_one, h, List.filter_append, List.map_append]; simp [hp]
theorem kidsP_out {k : Nat} {x : Cls} (h : (sortC l)[k]? = some x) {id : Int} (hp : id ≠ x.parent ∨ x.parent = 0) : kidsP l (k + 1) id = kidsP l k id := by
  unfold kidsP; rw [List.take_add_one, h, List.filter_append, List.map_append]
  have : (Option.toList (some x)).filter (fun c => decide (c.parent = id ∧ id ≠ 0)) = [] := by
    simp; rintro rfl; rcases hp with h | h
    · exact absurd rfl h
    · exact h
  rw [this]; simp
theorem kidsP_len (k : Nat) (id : Int) : (kidsP l k id).length ≤ k := by
  unfold kidsP; rw [List.length_map]
  exact Nat.le_trans (List.length_filter_le _ _) (List.length_take_le _ _)
theorem clsF_succ {k : Nat} {x : Cls} (h : (sortC l)[k]? = some x) : clsF l (k + 1) = fun i => if i = x.id then some x else clsF l k i := by
  unfold clsF; rw [List.take_add_one, h, List.foldl_append]; rfl
theorem fold_hit {c : Cls} : ∀ (xs : List Cls) (f : Int → Option Cls), (∀ x ∈ xs, x.id = c.id → x = c) → (f c.id = some c ∨ c ∈ xs) → (xs.foldl (fun f x => fun i => if i = x.id then some x else f i) f) c.id = some c
  | [], f, _, h => by rcases h with h | h; · exact h
                      · cases h
  | x :: xs, f, hu, h => by
    rw [List.foldl_cons]
    refine fold_hit xs _ (fun y hy => hu y (List.mem_cons_of_mem _ hy)) ?_
    by_cases hx : c.id = x.id
    · left
      have := hu x List.mem_cons_self hx.symm
      subst this
      simp
    · rcases h with h | h
      · left; simp only [if_neg hx]; exact h
      · rcases List.mem_cons.1 h with rfl | h
        · exact absurd rfl hx
        · exact .inr h
theorem fold_miss {i : Int} : ∀ (xs : List Cls) (f : Int → Option Cls), (∀ x ∈ xs, x.id ≠ i) → f i = none → (xs.foldl (fun f x => fun i => if i = x.id then some x else f i) f) i = none
  | [], f, _, h => h
  | x :: xs, f, hu, h => by
    rw [List.foldl_cons]
    refine fold_miss xs _ (fun y hy => hu y (List.mem_cons_of_mem _ hy)) ?_
    simp only [if_neg (Ne.symm (hu x List.mem_cons_self))]
    exact h
theorem clsF_all (G : Good l) : clsF l (sortC l).length = at? l := by
  funext i
  unfold clsF
  rw [List.take_length]
  cases h : at? l i with
  | none =>
    refine fold_miss _ _ (fun x hx e => ?_) rfl
    have := at_none.1 h
    exact this (List.mem_map.2 ⟨x, sort_mem.1 hx, e⟩)
  | some c =>
    obtain ⟨hc, rfl⟩ := at_mem h
    exact fold_hit _ _ (fun x hx e => nodup_inj G.nodup (sort_mem.1 hx) hc e) (.inr (sort_mem.2 hc))
theorem sort_at {k : Nat} {x : Cls} (h : (sortC l)[k]? = some x) : x ∈ l := sort_mem.1 (List.mem_of_getElem? h)
/-- classes as elements of a map -/
def clsV (c : Cls) : Go.Value := .agg #[.int .i64 c.id, .int .i64 c.parent, .float .f64 c.share, .int .i64 c.prio, .int .i64 c.quantum, .int .i64 c.limit, .int .i64 c.weight, .int .i64 c.minIdle, .int .i64 c.maxIdle, .bool c.bounded, .bool c.isolated]
def clsE (c : Cls) : Go.DataW Unit := .agg [.lit (.int .i64 c.id), .lit (.int .i64 c.parent), .lit (.int .i64 (c.share : Int)), .lit (.int .i64 c.prio), .lit (.int .i64 c.quantum), .lit (.int .i64 c.limit), .lit (.int .i64 c.weight), .lit (.int .i64 c.minIdle), .lit (.int .i64 c.maxIdle), .lit (.bool c.bounded), .lit (.bool c.isolated)]
def clsZ : Cls := ⟨0, 0, 0, 0, 0, 0, 0, 0, 0, false, false⟩
theorem cls_kind : Mp.Kind clsV clsE where
  agg a b h := by
    obtain ⟨a1, a2, a3, a4, a5, a6, a7, a8, a9, a10, a11⟩ := a
    obtain ⟨b1, b2, b3, b4, b5, b6, b7, b8, b9, b10, b11⟩ := b
    simp [clsV] at h
    simp [h]
  enc a b h := by
    obtain ⟨a1, a2, a3, a4, a5, a6, a7, a8, a9, a10, a11⟩ := a
    obtain ⟨b1, b2, b3, b4, b5, b6, b7, b8, b9, b10, b11⟩ := b
    simp [clsE] at h
    have h3 : a3 = b3 := by have := h.2.2.1; omega
    simp [h, h3]
end Go.Proofs.YtpchhfhmopmagaaGreat.Tp
